/- A part of a proof; no conditions. -/
import Derived.Test.YtomgmojjdgiieaaGreatP27
import Derived.Test.YtomgmojjdgiieaaGreatP29
set_option linter.unusedSimpArgs false
set_option linter.unusedVariables false
set_option linter.unusedSectionVars false
section
/- The reference's layer 1: CheckTable. No conditions. -/
set_option linter.unusedSimpArgs false
set_option linter.unusedSectionVars false
set_option maxRecDepth 100000
set_option maxHeartbeats 4000000
namespace Go.Sx.Rot
open Go.Proofs Go.Sx Go.Sx.Tab
attribute [local irreducible] HLe
attribute [local simp] hps_app
noncomputable abbrev E118 : Env := { P := Tryz.prog, fn := tbl [(124, .pure axS), (98, .pure withinS)], own := [], key := 11800, nt := 61 }
theorem b118 : PureBody E118 [] Tryz.f118 ctS := by
  refine pb ?_
  rintro t ⟨bx, by', bv⟩
  have bx' : t.xs.length ≤ 9223372036854775807 := by omega
  have by'' : t.ys.length ≤ 9223372036854775807 := by omega
  cases h1 : axB t.xs
  · have hz : tbB t = false := by simp [tbB, h1]
    simp -dsimp [Tryz.f118, E118, tabR]
    repeat' (first | omega | (simp -dsimp [E118, ri, cellp, ints, bx', by'', h1, inE_dec, hz]) | (refine Also.intro ?_ fun _ => ?_) | (refine Hold.intro fun _ => ?_) | (refine And.intro ?_ ?_))
  cases h2 : axB t.ys
  · have hz : tbB t = false := by simp [tbB, h1, h2]
    simp -dsimp [Tryz.f118, E118, tabR]
    repeat' (first | omega | (simp -dsimp [E118, ri, cellp, ints, bx', by'', h1, h2, inE_dec, hz]) | (refine Also.intro ?_ fun _ => ?_) | (refine Hold.intro fun _ => ?_) | (refine And.intro ?_ ?_))
  by_cases h3 : t.vs.length = t.xs.length
  case neg =>
    have h3' : ((t.vs.length : Int) = t.xs.length) = False := eq_false (by omega)
    have hz : tbB t = false := by simp [tbB, h1, h2, h3]
    simp -dsimp [Tryz.f118, E118, tabR]
    repeat' (first | omega | (simp -dsimp [E118, ri, cellp, ints, bx', by'', h1, h2, h3, h3', inE_dec, hz]) | (refine Also.intro ?_ fun _ => ?_) | (refine Hold.intro fun _ => ?_) | (refine And.intro ?_ ?_))
  have h3' : ((t.vs.length : Int) = t.xs.length) = True := eq_true (by omega)
  have l1 := axB_len h1
  have l2 := axB_len h2
  have hE : tbB t = !t.vs.any (rowBad t) := by simp [tbB, h1, h2, h3]
  simp -dsimp [Tryz.f118, E118, tabR]
  repeat' (first | omega | (simp -dsimp [E118, ri, cellp, ints, bx', by'', h1, h2, h3, h3', inE_dec]) | (refine Also.intro ?_ fun _ => ?_) | (refine Hold.intro fun _ => ?_) | (refine And.intro ?_ ?_))
  refine awp_loop [24, 25, 26, 27, 28, 31, 32, 33, 34, 35, 36, 37, 38, 39, 40, 2, 4, 41, 42, 43, 44, 45, 46, 47, 48, 51, 52, 53, 54, 55, 56, 57, 58, 59, 60, 49, 50, 29, 30, 3] (fun k : { k : Nat // k ≤ t.vs.length ∧ (t.vs.take k).any (rowBad t) = false } => [(3, (true, .int .i64 k.1))]) (fun _ => hps [(11801, tbS t)] noH) (fun k => t.vs.length - k.1) ⟨0, by omega, by simp⟩ ?_ ?_ ?_
  · simp [okAll, okv]
  · exact (by (try simp -dsimp only [hpush_noH, hpush_hps, hps_over]); refine hle_hps ?_; simp -dsimp [allK, tbS]; repeat' (first | (refine And.intro ?_ ?_) | (refine sLe.same ?_ ?_ <;> (simp; done)) | (refine sLe.clear ?_ ?_ <;> (first | (simp; done) | (simp; omega))) | (refine sLe.drop 1 ?_ ?_ ?_ <;> (simp; done))))
  rintro ⟨k, hk, hall⟩
  dsimp only
  by_cases hk1 : k < t.vs.length
  · have hki : (k : Int) < t.vs.length := by omega
    have wk : IntKind.wrap .i64 ((k : Int) + 1) = (k + 1 : Nat) := wrap_id (by omega) (by omega)
    obtain ⟨x, hx, hx'⟩ := get_ex hk1
    have hB : rowBad t x = true → tbB t = false := fun h => by
      rw [hE, List.any_eq_true.2 ⟨x, hx' ▸ List.getElem_mem hk1, h⟩]; rfl
    have hG : rowBad t x = false → (t.vs.take (k + 1)).any (rowBad t) = false := fun h => by
      rw [List.take_add_one, List.any_append, hall, hx]; simp [h]
    by_cases c : x.length = t.ys.length
    case neg =>
      have hz := hB (by simp [rowBad, c])
      have ci : ((x.length : Int) = t.ys.length) = False := eq_false (by omega)
      simp -dsimp [hki]
      repeat' (first | omega | (simp -dsimp [E118, ri, cellp, ints, hki, hk1, hx, hx', rwI, tbS, c, ci, hz]) | (refine Also.intro ?_ fun _ => ?_) | (refine Hold.intro fun _ => ?_) | (refine And.intro ?_ ?_))
    have ci : ((x.length : Int) = t.ys.length) = True := eq_true (by omega)
    simp -dsimp [hki]
    repeat' (first | omega | (simp -dsimp [E118, ri, cellp, ints, hki, hk1, hx, hx', rwI, tbS, c, ci]) | (refine Also.intro ?_ fun _ => ?_) | (refine Hold.intro fun _ => ?_) | (refine And.intro ?_ ?_))
    refine awp_loop [41, 42, 43, 44, 45, 46, 47, 48, 51, 52, 53, 54, 55, 56, 57, 58, 59, 60, 2, 49, 50, 4] (fun j : { j : Nat // j ≤ x.length ∧ (x.take j).any far6 = false } => [(4, (true, .int .i64 j.1))]) (fun _ => hps [(11801, tbS t)] noH) (fun j => x.length - j.1) ⟨0, by omega, by simp⟩ ?_ ?_ ?_
    · simp [okAll, okv]
    · exact (by (try simp -dsimp only [hpush_noH, hpush_hps, hps_over]); refine hle_hps ?_; simp -dsimp [allK, tbS]; repeat' (first | (refine And.intro ?_ ?_) | (refine sLe.same ?_ ?_ <;> (simp; done)) | (refine sLe.clear ?_ ?_ <;> (first | (simp; done) | (simp; omega))) | (refine sLe.drop 1 ?_ ?_ ?_ <;> (simp; done))))
    rintro ⟨j, hj, hin⟩
    dsimp only
    by_cases hj1 : j < x.length
    · have hji : (j : Int) < x.length := by omega
      have wj : IntKind.wrap .i64 ((j : Int) + 1) = (j + 1 : Nat) := wrap_id (by omega) (by omega)
      obtain ⟨p, hp, hp'⟩ := get_ex hj1
      have hf : far6 p = !withinB p (-1000000) 1000000 := rfl
      have hjc : (j : Int) < t.ys.length := by omega
      cases hw : withinB p (-1000000) 1000000
      · have hz := hB (by
          rw [rowBad, Bool.or_eq_true]
          exact .inr (List.any_eq_true.2 ⟨p, hp' ▸ List.getElem_mem hj1, by rw [hf, hw]; rfl⟩))
        simp -dsimp [hji]
        repeat' (first | omega | (simp -dsimp [E118, ri, cellp, ints, hji, hjc, hj1, hki, hk1, hx, hx', hp, hp', rwI, tbS, c, ci, hw, hz]) | (refine Also.intro ?_ fun _ => ?_) | (refine Hold.intro fun _ => ?_) | (refine And.intro ?_ ?_))
      · simp -dsimp [hji]
        repeat' (first | omega | (simp -dsimp [E118, ri, cellp, ints, hji, hjc, hj1, hki, hk1, hx, hx', hp, hp', rwI, tbS, c, ci, hw, wj]) | (refine Also.intro ?_ fun _ => ?_) | (refine Hold.intro fun _ => ?_) | (refine And.intro ?_ ?_))
        refine ⟨j + 1, tle_chain rfl ?_, ?_, ⟨by omega, ?_⟩, by omega⟩
        · simp [okAll, okv]
        · exact (by (try simp -dsimp only [hpush_noH, hpush_hps, hps_over]); refine hle_hps ?_; simp -dsimp [allK, tbS]; repeat' (first | (refine And.intro ?_ ?_) | (refine sLe.same ?_ ?_ <;> (simp; done)) | (refine sLe.clear ?_ ?_ <;> (first | (simp; done) | (simp; omega))) | (refine sLe.drop 1 ?_ ?_ ?_ <;> (simp; done))))
        · have hj' : (x.take (j + 1)).any far6 = false := by rw [List.take_add_one, List.any_append, hin, hp]; simp [hf, hw]
          simpa using hj'
    · have hjn : ¬ (j : Int) < x.length := by omega
      have hjc : ¬ (j : Int) < t.ys.length := by omega
      have hj2 : j = x.length := by omega
      simp -dsimp [hjn]
      repeat' (first | omega | (simp -dsimp [E118, ri, cellp, ints, hjn, hjc, hki, hk1, hx, hx', c, ci, wk, rwI, tbS]) | (refine Also.intro ?_ fun _ => ?_) | (refine Hold.intro fun _ => ?_) | (refine And.intro ?_ ?_))
      refine ⟨k + 1, tle_kept (kept_upds rfl (kept_forget rfl (kept_upds rfl kept_base))) ?_, ?_, ⟨by omega, ?_⟩, by omega⟩
      · simp [okAll, okv]
      · exact (by (try simp -dsimp only [hpush_noH, hpush_hps, hps_over]); refine hle_hps ?_; simp -dsimp [allK, tbS]; repeat' (first | (refine And.intro ?_ ?_) | (refine sLe.same ?_ ?_ <;> (simp; done)) | (refine sLe.clear ?_ ?_ <;> (first | (simp; done) | (simp; omega))) | (refine sLe.drop 1 ?_ ?_ ?_ <;> (simp; done))))
      · rw [hj2, List.take_length] at hin
        have := hG (by rw [rowBad, hin, decide_eq_true c]; rfl)
        simpa using this
  · have hkn : ¬ (k : Int) < t.vs.length := by omega
    have hk2 : k = t.vs.length := by omega
    have hz : tbB t = true := by rw [hk2, List.take_length] at hall; rw [hE, hall]; rfl
    have h3k : ((k : Int) < t.xs.length) = False := eq_false (by omega)
    simp -dsimp [hkn]
    repeat' (first | omega | (simp -dsimp [E118, ri, cellp, ints, hkn, h3k, hz, tbS]) | (refine Also.intro ?_ fun _ => ?_) | (refine Hold.intro fun _ => ?_) | (refine And.intro ?_ ?_))
theorem ok118 : FnOK Tryz.prog 118 (.pure ctS) := pure_fn (E := E118) rfl (.cons ok124 (.cons ok98 .nil)) (ok := []) (fn := Tryz.f118) (by kernel_rfl) (by kernel_rfl) (by kernel_rfl) (by kernel_rfl) rfl (fun _ _ => by simp) b118
end Go.Sx.Rot
end
section
/- The reference's layer 2: tables with values within limits, equal lists. No conditions. -/
set_option linter.unusedSimpArgs false
set_option linter.unusedSectionVars false
set_option maxRecDepth 100000
set_option maxHeartbeats 8000000
namespace Go.Sx.Rot
open Go.Proofs Go.Sx Go.Sx.Tab
attribute [local irreducible] HLe
attribute [local simp] hps_app
noncomputable abbrev E97 : Env := { P := Tryz.prog, fn := tbl [], own := [], key := 9700, nt := 15 }
theorem b97 : PureBody E97 [] Tryz.f97 withinS := by
  refine pb ?_
  rintro ⟨n, a, b⟩ _
  simp -dsimp [Tryz.f97, E97, withinB]
  repeat' (first | omega | (simp -dsimp [E97, ri, cellp, ints, *]) | (refine Also.intro ?_ fun _ => ?_) | (refine Hold.intro fun _ => ?_) | (refine And.intro ?_ ?_))
theorem ok97 : FnOK Tryz.prog 97 (.pure withinS) := pure_fn (E := E97) rfl LOK.nil (ok := []) (fn := Tryz.f97) (by kernel_rfl) (by kernel_rfl) (by kernel_rfl) (by kernel_rfl) rfl (fun _ _ => by simp) b97
noncomputable abbrev E96 : Env := { P := Tryz.prog, fn := tbl [], own := [], key := 9600, nt := 26 }
theorem b96 : PureBody E96 [] Tryz.f96 eqS := by
  refine pb ?_
  rintro ⟨a, b⟩ ⟨ha, hb⟩
  simp only at ha hb
  by_cases hl : a.length = b.length
  case neg =>
    have hz : (a = b) = False := eq_false fun e => hl (by rw [e])
    have hi : ((a.length : Int) = b.length) = False := eq_false (by omega)
    simp -dsimp [Tryz.f96, E96]
    repeat' (first | omega | (simp -dsimp [E96, ri, cellp, ints, hl, hi, hz]) | (refine Also.intro ?_ fun _ => ?_) | (refine Hold.intro fun _ => ?_) | (refine And.intro ?_ ?_))
  have hi : ((a.length : Int) = b.length) = True := eq_true (by omega)
  simp -dsimp [Tryz.f96, E96]
  repeat' (first | omega | (simp -dsimp [E96, ri, cellp, ints, hi]) | (refine Also.intro ?_ fun _ => ?_) | (refine Hold.intro fun _ => ?_) | (refine And.intro ?_ ?_))
  refine awp_loop [11, 12, 13, 14, 17, 18, 19, 20, 21, 22, 23, 24, 25, 4, 15, 16, 5] (fun k : { k : Nat // k ≤ a.length ∧ ∀ j, j < k → a[j]? = b[j]? } => [(5, (true, .int .i64 k.1))]) (fun _ => noH) (fun k => a.length - k.1) ⟨0, by omega, fun _ h => by omega⟩ ?_ (HLe.refl _) ?_
  · simp [okAll, okv]
  rintro ⟨k, hk, hall⟩
  dsimp only
  by_cases hk1 : k < a.length
  · have hki : (k : Int) < a.length := by omega
    have wk : IntKind.wrap .i64 ((k : Int) + 1) = (k + 1 : Nat) := wrap_id (by omega) (by omega)
    have hk2 : k < b.length := by omega
    obtain ⟨x, hx, hx'⟩ := get_ex hk1
    obtain ⟨y, hy, hy'⟩ := get_ex hk2
    by_cases he : x = y
    · simp -dsimp [hki]
      repeat' (first | omega | (simp -dsimp [E96, ri, cellp, ints, hki, hk1, hk2, wk, hx, hx', hy, hy', he]) | (refine Also.intro ?_ fun _ => ?_) | (refine Hold.intro fun _ => ?_) | (refine And.intro ?_ ?_))
      refine ⟨k + 1, tle_chain rfl ?_, HLe.refl _, ⟨by omega, fun j hj => ?_⟩, by omega⟩
      · simp [okAll, okv]
      · by_cases hjk : j = k
        · subst hjk; rw [hx, hy, he]
        · exact hall j (by omega)
    · have hz : (a = b) = False := eq_false fun e => he (by subst e; rw [hx] at hy; cases hy; rfl)
      simp -dsimp [hki]
      repeat' (first | omega | (simp -dsimp [E96, ri, cellp, ints, hki, hk1, hk2, wk, hx, hx', hy, hy', he, hz]) | (refine Also.intro ?_ fun _ => ?_) | (refine Hold.intro fun _ => ?_) | (refine And.intro ?_ ?_))
  · have hkn : ¬ (k : Int) < a.length := by omega
    have hz : (a = b) = True := eq_true (List.ext_getElem? fun j => by
      by_cases h : j < k
      · exact hall j h
      · rw [List.getElem?_eq_none (by omega), List.getElem?_eq_none (by omega)])
    simp -dsimp [hkn]
    repeat' (first | omega | (simp -dsimp [E96, ri, cellp, ints, hkn, hz]) | (refine Also.intro ?_ fun _ => ?_) | (refine Hold.intro fun _ => ?_) | (refine And.intro ?_ ?_))
theorem ok96 : FnOK Tryz.prog 96 (.pure eqS) := pure_fn (E := E96) rfl LOK.nil (ok := []) (fn := Tryz.f96) (by kernel_rfl) (by kernel_rfl) (by kernel_rfl) (by kernel_rfl) rfl (fun _ _ => by simp) b96
@[simp] def fiE (l : Lim) : List V := [.agg (tabR l.t), .int .i64 l.lo, .int .i64 l.hi]
theorem fiE_inj (a b : Lim) (h : fiE a = fiE b) : a = b := by
  obtain ⟨a1, a2, a3⟩ := a; obtain ⟨b1, b2, b3⟩ := b
  simp only [fiE, List.cons.injEq, V.agg.injEq, V.int.injEq, true_and, and_true] at h
  rw [tabR_inj _ _ h.1, h.2.1, h.2.2]
theorem fiE_dec (t : Tb) (a b : Int) : decC fiE [.agg [.sl 1 (t.xs.map ri), .sl 1 (t.ys.map ri), .sl 1 (t.vs.map rwI)], .int .i64 a, .int .i64 b] = ⟨t, a, b⟩ := decC_eq fiE_inj ⟨t, a, b⟩
noncomputable abbrev fiS : PSpec := mkP fiE (fun l => TbP l.t) fun l => .bool (limB l)
noncomputable abbrev E95 : Env := { P := Tryz.prog, fn := tbl [(118, .pure ctS), (97, .pure withinS)], own := [], key := 9500, nt := 38 }
theorem b95 : PureBody E95 [] Tryz.f95 fiS := by
  refine pb ?_
  rintro ⟨t, lo, hi⟩ hP
  have hP : TbP t := hP
  cases h1 : tbB t
  · have hz : limB ⟨t, lo, hi⟩ = false := by simp [limB, h1]
    simp -dsimp [Tryz.f95, E95, tabR]
    repeat' (first | omega | (simp -dsimp [E95, ri, cellp, ints, hP, h1, tbE_dec, tabR, hz]) | (refine Also.intro ?_ fun _ => ?_) | (refine Hold.intro fun _ => ?_) | (refine And.intro ?_ ?_))
  obtain ⟨n1, n2, n3⟩ := tbB_len h1
  have hr := tbB_rows h1
  have hE : limB ⟨t, lo, hi⟩ = !t.vs.any (rowBey ⟨t, lo, hi⟩) := by simp [limB, h1]
  simp -dsimp [Tryz.f95, E95, tabR]
  repeat' (first | omega | (simp -dsimp [E95, ri, cellp, ints, hP, h1, tbE_dec, tabR]) | (refine Also.intro ?_ fun _ => ?_) | (refine Hold.intro fun _ => ?_) | (refine And.intro ?_ ?_))
  refine awp_loop [12, 13, 14, 15, 16, 8, 19, 20, 21, 22, 23, 26, 27, 28, 29, 30, 31, 32, 33, 34, 35, 36, 37, 6, 24, 25, 17, 18, 7] (fun k : { k : Nat // k ≤ t.xs.length ∧ (t.vs.take k).any (rowBey ⟨t, lo, hi⟩) = false } => [(7, (true, .int .i64 k.1))]) (fun _ => hps [(9503, tbS t)] noH) (fun k => t.xs.length - k.1) ⟨0, by omega, by simp⟩ ?_ ?_ ?_
  · simp [okAll, okv]
  · exact (by (try simp -dsimp only [hpush_noH, hpush_hps, hps_over]); refine hle_hps ?_; simp -dsimp [allK, tbS]; repeat' (first | (refine And.intro ?_ ?_) | (refine sLe.same ?_ ?_ <;> (simp; done)) | (refine sLe.clear ?_ ?_ <;> (first | (simp; done) | (simp; omega))) | (refine sLe.drop 1 ?_ ?_ ?_ <;> (simp; done))))
  rintro ⟨k, hk, hall⟩
  dsimp only
  by_cases hk1 : k < t.xs.length
  · have hki : (k : Int) < t.xs.length := by omega
    have wk : IntKind.wrap .i64 ((k : Int) + 1) = (k + 1 : Nat) := wrap_id (by omega) (by omega)
    have hkv : k < t.vs.length := by omega
    obtain ⟨x, hx, hx'⟩ := get_ex hkv
    have c : x.length = t.ys.length := hr x (hx' ▸ List.getElem_mem hkv)
    have hB : rowBey ⟨t, lo, hi⟩ x = true → limB ⟨t, lo, hi⟩ = false := fun h => by
      rw [hE, List.any_eq_true.2 ⟨x, hx' ▸ List.getElem_mem hkv, h⟩]; rfl
    have hG : rowBey ⟨t, lo, hi⟩ x = false → (t.vs.take (k + 1)).any (rowBey ⟨t, lo, hi⟩) = false := fun h => by
      rw [List.take_add_one, List.any_append, hall, hx]; simp [h]
    simp -dsimp [hki]
    repeat' (first | omega | (simp -dsimp [E95, ri, cellp, ints, hki, hk1, hkv, hx, hx', rwI, tbS]) | (refine Also.intro ?_ fun _ => ?_) | (refine Hold.intro fun _ => ?_) | (refine And.intro ?_ ?_))
    refine awp_loop [19, 20, 21, 22, 23, 26, 27, 28, 29, 30, 31, 32, 33, 34, 35, 36, 37, 6, 24, 25, 8] (fun j : { j : Nat // j ≤ t.ys.length ∧ (x.take j).any (beyP ⟨t, lo, hi⟩) = false } => [(8, (true, .int .i64 j.1))]) (fun _ => hps [(9503, tbS t)] noH) (fun j => t.ys.length - j.1) ⟨0, by omega, by simp⟩ ?_ ?_ ?_
    · simp [okAll, okv]
    · exact (by (try simp -dsimp only [hpush_noH, hpush_hps, hps_over]); refine hle_hps ?_; simp -dsimp [allK, tbS]; repeat' (first | (refine And.intro ?_ ?_) | (refine sLe.same ?_ ?_ <;> (simp; done)) | (refine sLe.clear ?_ ?_ <;> (first | (simp; done) | (simp; omega))) | (refine sLe.drop 1 ?_ ?_ ?_ <;> (simp; done))))
    rintro ⟨j, hj, hin⟩
    dsimp only
    by_cases hj1 : j < t.ys.length
    · have hji : (j : Int) < t.ys.length := by omega
      have wj : IntKind.wrap .i64 ((j : Int) + 1) = (j + 1 : Nat) := wrap_id (by omega) (by omega)
      have hjx : j < x.length := by omega
      obtain ⟨p, hp, hp'⟩ := get_ex hjx
      have hf : beyP ⟨t, lo, hi⟩ p = !withinB p lo hi := rfl
      cases hw : withinB p lo hi
      · have hz := hB (List.any_eq_true.2 ⟨p, hp' ▸ List.getElem_mem hjx, by rw [hf, hw]; rfl⟩)
        simp -dsimp [hji]
        repeat' (first | omega | (simp -dsimp [E95, ri, cellp, ints, hji, hj1, hjx, hki, hk1, hkv, hx, hx', hp, hp', rwI, tbS, hw, hz]) | (refine Also.intro ?_ fun _ => ?_) | (refine Hold.intro fun _ => ?_) | (refine And.intro ?_ ?_))
      · have hj' : (x.take (j + 1)).any (beyP ⟨t, lo, hi⟩) = false := by rw [List.take_add_one, List.any_append, hin, hp]; simp [hf, hw]
        simp -dsimp [hji]
        repeat' (first | omega | (simp -dsimp [E95, ri, cellp, ints, hji, hj1, hjx, hki, hk1, hkv, hx, hx', hp, hp', rwI, tbS, hw, wj]) | (refine Also.intro ?_ fun _ => ?_) | (refine Hold.intro fun _ => ?_) | (refine And.intro ?_ ?_))
        refine ⟨j + 1, tle_chain rfl ?_, ?_, ⟨by omega, ?_⟩, by omega⟩
        · simp [okAll, okv]
        · exact (by (try simp -dsimp only [hpush_noH, hpush_hps, hps_over]); refine hle_hps ?_; simp -dsimp [allK, tbS]; repeat' (first | (refine And.intro ?_ ?_) | (refine sLe.same ?_ ?_ <;> (simp; done)) | (refine sLe.clear ?_ ?_ <;> (first | (simp; done) | (simp; omega))) | (refine sLe.drop 1 ?_ ?_ ?_ <;> (simp; done))))
        · simpa using hj'
    · have hjn : ¬ (j : Int) < t.ys.length := by omega
      have hj2 : j = x.length := by omega
      simp -dsimp [hjn]
      repeat' (first | omega | (simp -dsimp [E95, ri, cellp, ints, hjn, hki, hk1, hkv, hx, hx', wk, rwI, tbS]) | (refine Also.intro ?_ fun _ => ?_) | (refine Hold.intro fun _ => ?_) | (refine And.intro ?_ ?_))
      refine ⟨k + 1, tle_kept (kept_upds rfl (kept_forget rfl (kept_upds rfl kept_base))) ?_, ?_, ⟨by omega, ?_⟩, by omega⟩
      · simp [okAll, okv]
      · exact (by (try simp -dsimp only [hpush_noH, hpush_hps, hps_over]); refine hle_hps ?_; simp -dsimp [allK, tbS]; repeat' (first | (refine And.intro ?_ ?_) | (refine sLe.same ?_ ?_ <;> (simp; done)) | (refine sLe.clear ?_ ?_ <;> (first | (simp; done) | (simp; omega))) | (refine sLe.drop 1 ?_ ?_ ?_ <;> (simp; done))))
      · rw [hj2, List.take_length] at hin
        have := hG hin
        simpa using this
  · have hkn : ¬ (k : Int) < t.xs.length := by omega
    have hk2 : k = t.vs.length := by omega
    have hz : limB ⟨t, lo, hi⟩ = true := by rw [hk2, List.take_length] at hall; rw [hE, hall]; rfl
    simp -dsimp [hkn]
    repeat' (first | omega | (simp -dsimp [E95, ri, cellp, ints, hkn, hz, tbS]) | (refine Also.intro ?_ fun _ => ?_) | (refine Hold.intro fun _ => ?_) | (refine And.intro ?_ ?_))
theorem ok95 : FnOK Tryz.prog 95 (.pure fiS) := pure_fn (E := E95) rfl (.cons ok118 (.cons ok97 .nil)) (ok := []) (fn := Tryz.f95) (by kernel_rfl) (by kernel_rfl) (by kernel_rfl) (by kernel_rfl) rfl (fun _ _ => by simp) b95
end Go.Sx.Rot
end
section
/- Rotor: the errors of a margin; Margin. No conditions. -/
set_option linter.unusedSimpArgs false
set_option linter.unusedSectionVars false
set_option maxRecDepth 100000
set_option maxHeartbeats 4000000
namespace Go.Sx.Rot
open Go.Proofs Go.Sx Go.Sx.Tab
attribute [local irreducible] HLe
attribute [local simp] hps_app
@[simp] def fspsE (d : List Sp) : List V := [.sl 2 (d.map Sp.row), .fn 52 []]
theorem fspsE_inj (a b : List Sp) (h : fspsE a = fspsE b) : a = b := by
  simp only [fspsE, List.cons.injEq, V.sl.injEq, true_and, and_true] at h
  exact mapRow_inj Sp.row_inj h
theorem fspsE_dec (l : List Sp) : decC fspsE [.sl 2 (l.map Sp.row), .fn 52 []] = l := decC_eq fspsE_inj l
noncomputable abbrev fspixS : PSpec := mkP fspsE (fun d => d.length ≤ 1000000) fun d => .int .i64 (idxZ d spN)
noncomputable abbrev fspanS : PSpec := mkP fspsE (fun d => d.length ≤ 1000000) fun d => .bool (d.any spN)
noncomputable abbrev E85 : Env := { P := Tryz.prog, fn := tbl [(52, .pure nvS)], own := [], key := 8500, nt := 19 }
theorem b85 : PureBody E85 [] Tryz.f85 fspixS := by
  refine pb ?_
  rintro l hl
  have hl : l.length ≤ 1000000 := hl
  simp -dsimp [Tryz.f85, E85]
  refine awp_loop [9, 10, 5, 11, 12, 13, 14, 15, 16, 17, 4, 18, 8] (fun k : { k : Nat // k ≤ l.length ∧ ∀ j (h : j < l.length), j < k → spN l[j] = false } => [(8, (true, .int .i64 k.1))]) (fun _ => noH) (fun k => l.length - k.1) ⟨0, by omega, fun _ _ h => by omega⟩ ?_ (HLe.refl _) ?_
  · simp [okAll, okv]
  rintro ⟨k, hk, hall⟩
  by_cases hk1 : k < l.length
  · have hki : (k : Int) < l.length := by omega
    have wk : IntKind.wrap .i64 ((k : Int) + 1) = (k + 1 : Nat) := wrap_id (by omega) (by omega)
    cases hw : spN l[k]
    · simp -dsimp [hki]
      repeat' (first | omega | (simp -dsimp [E85, ri, cellp, ints, hki, hk1, hl, hw, wk, spE_dec, Sp.row]) | (refine Also.intro ?_ fun _ => ?_) | (refine Hold.intro fun _ => ?_) | (refine And.intro ?_ ?_))
      refine ⟨k + 1, tle_chain rfl ?_, HLe.refl _, ⟨by omega, fun j h hj => ?_⟩, by omega⟩
      · simp [okAll, okv]
      · by_cases hjk : j = k
        · subst hjk; exact hw
        · exact hall j h (by omega)
    · have hz := idxZ_at l spN hk1 hw hall
      simp -dsimp [hki]
      repeat' (first | omega | (simp -dsimp [E85, ri, cellp, ints, hki, hk1, hl, hw, wk, hz, spE_dec, Sp.row]) | (refine Also.intro ?_ fun _ => ?_) | (refine Hold.intro fun _ => ?_) | (refine And.intro ?_ ?_))
  · have hkn : ¬ (k : Int) < l.length := by omega
    have hz := idxZ_none l spN (fun j h => hall j h (by omega))
    simp -dsimp [hkn]
    repeat' (first | omega | (simp -dsimp [E85, ri, cellp, ints, hkn, hz]) | (refine Also.intro ?_ fun _ => ?_) | (refine Hold.intro fun _ => ?_) | (refine And.intro ?_ ?_))
theorem ok85 : FnOK Tryz.prog 85 (.pure fspixS) := pure_fn (E := E85) rfl (.cons ok52 .nil) (ok := []) (fn := Tryz.f85) (by kernel_rfl) (by kernel_rfl) (by kernel_rfl) (by kernel_rfl) rfl (fun _ _ => by simp) b85
noncomputable abbrev E51 : Env := { P := Tryz.prog, fn := tbl [(85, .pure fspixS)], own := [], key := 5100, nt := 9 }
theorem b51 : PureBody E51 [] Tryz.f51 fspanS := by
  refine pb ?_
  rintro l hl
  have hl : l.length ≤ 1000000 := hl
  have hz := idxZ_any l spN
  simp -dsimp [Tryz.f51, E51]
  repeat' (first | omega | (simp -dsimp [E51, ri, cellp, ints, hl, fspsE_dec, hz]) | (refine Also.intro ?_ fun _ => ?_) | (refine Hold.intro fun _ => ?_) | (refine And.intro ?_ ?_))
theorem ok51 : FnOK Tryz.prog 51 (.pure fspanS) := pure_fn (E := E51) rfl (.cons ok85 .nil) (ok := []) (fn := Tryz.f51) (by kernel_rfl) (by kernel_rfl) (by kernel_rfl) (by kernel_rfl) rfl (fun _ _ => by simp) b51
def lkN (d : BdD) : Bool := !lkB d
@[simp] def flkE (l : List BdD) : List V := [.sl 7 (l.map lkR), .fn 54 []]
theorem flkE_inj (a b : List BdD) (h : flkE a = flkE b) : a = b := by
  simp only [flkE, List.cons.injEq, V.sl.injEq, true_and, and_true] at h
  exact mapRow_inj lkR_inj h
theorem flkE_dec (l : List BdD) : decC flkE [.sl 7 (l.map lkR), .fn 54 []] = l := decC_eq flkE_inj l
structure FlP (l : List BdD) : Prop where
  n : l.length ≤ 1000000
  e : ∀ d ∈ l, LkP d
noncomputable abbrev flixS : PSpec := mkP flkE FlP fun l => .int .i64 (idxZ l lkN)
noncomputable abbrev flanS : PSpec := mkP flkE FlP fun l => .bool (l.any lkN)
theorem lk_dec (d : BdD) : decC lkE [.agg (lkR d)] = d := decC_eq lkE_inj d
noncomputable abbrev E86 : Env := { P := Tryz.prog, fn := tbl [(54, .pure nlS)], own := [], key := 8600, nt := 19 }
theorem b86 : PureBody E86 [] Tryz.f86 flixS := by
  refine pb ?_
  rintro l ⟨hl, he⟩
  simp -dsimp [Tryz.f86, E86]
  refine awp_loop [9, 10, 5, 11, 12, 13, 14, 15, 16, 17, 4, 18, 8] (fun k : { k : Nat // k ≤ l.length ∧ ∀ j (h : j < l.length), j < k → lkN l[j] = false } => [(8, (true, .int .i64 k.1))]) (fun _ => noH) (fun k => l.length - k.1) ⟨0, by omega, fun _ _ h => by omega⟩ ?_ (HLe.refl _) ?_
  · simp [okAll, okv]
  rintro ⟨k, hk, hall⟩
  by_cases hk1 : k < l.length
  · have hki : (k : Int) < l.length := by omega
    have wk : IntKind.wrap .i64 ((k : Int) + 1) = (k + 1 : Nat) := wrap_id (by omega) (by omega)
    obtain ⟨x, hx, hx'⟩ := get_ex hk1
    have hX : LkP x := he x (hx' ▸ List.getElem_mem hk1)
    have hn : lkN x = !lkB x := rfl
    cases hw : lkB x
    · have hz := idxZ_at l lkN hk1 (by rw [hx', hn, hw]; rfl) hall
      simp -dsimp [hki]
      repeat' (first | omega | (simp -dsimp [E86, ri, cellp, ints, hki, hk1, hl, hx, hx', hX, hw, wk, hz, lk_dec]) | (refine Also.intro ?_ fun _ => ?_) | (refine Hold.intro fun _ => ?_) | (refine And.intro ?_ ?_))
    · simp -dsimp [hki]
      repeat' (first | omega | (simp -dsimp [E86, ri, cellp, ints, hki, hk1, hl, hx, hx', hX, hw, wk, lk_dec]) | (refine Also.intro ?_ fun _ => ?_) | (refine Hold.intro fun _ => ?_) | (refine And.intro ?_ ?_))
      refine ⟨k + 1, tle_chain rfl ?_, HLe.refl _, ⟨by omega, fun j h hj => ?_⟩, by omega⟩
      · simp [okAll, okv]
      · by_cases hjk : j = k
        · subst hjk; rw [hx', hn, hw]; rfl
        · exact hall j h (by omega)
  · have hkn : ¬ (k : Int) < l.length := by omega
    have hz := idxZ_none l lkN (fun j h => hall j h (by omega))
    simp -dsimp [hkn]
    repeat' (first | omega | (simp -dsimp [E86, ri, cellp, ints, hkn, hz]) | (refine Also.intro ?_ fun _ => ?_) | (refine Hold.intro fun _ => ?_) | (refine And.intro ?_ ?_))
theorem ok86 : FnOK Tryz.prog 86 (.pure flixS) := pure_fn (E := E86) rfl (.cons ok54 .nil) (ok := []) (fn := Tryz.f86) (by kernel_rfl) (by kernel_rfl) (by kernel_rfl) (by kernel_rfl) rfl (fun _ _ => by simp) b86
noncomputable abbrev E53 : Env := { P := Tryz.prog, fn := tbl [(86, .pure flixS)], own := [], key := 5300, nt := 9 }
theorem b53 : PureBody E53 [] Tryz.f53 flanS := by
  refine pb ?_
  rintro l hl
  have hz := idxZ_any l lkN
  simp -dsimp [Tryz.f53, E53]
  repeat' (first | omega | (simp -dsimp [E53, ri, cellp, ints, hl, flkE_dec, hz]) | (refine Also.intro ?_ fun _ => ?_) | (refine Hold.intro fun _ => ?_) | (refine And.intro ?_ ?_))
theorem ok53 : FnOK Tryz.prog 53 (.pure flanS) := pure_fn (E := E53) rfl (.cons ok86 .nil) (ok := []) (fn := Tryz.f53) (by kernel_rfl) (by kernel_rfl) (by kernel_rfl) (by kernel_rfl) rfl (fun _ _ => by simp) b53
end Go.Sx.Rot
end
