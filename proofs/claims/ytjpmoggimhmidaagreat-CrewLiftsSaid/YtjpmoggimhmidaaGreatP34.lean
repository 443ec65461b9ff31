/- A part of a proof; no conditions. -/
import Derived.Test.YtjpmoggimhmidaaGreatP33
set_option linter.unusedSimpArgs false
set_option linter.unusedVariables false
set_option linter.unusedSectionVars false
section
/- The reference's layer 1: bound, Bound. No conditions. -/
set_option linter.unusedSimpArgs false
set_option linter.unusedSectionVars false
set_option maxRecDepth 100000
set_option maxHeartbeats 8000000
namespace Go.Sx.Rot
open Go.Proofs Go.Sx Go.Sx.Tab
attribute [local irreducible] HLe
attribute [local simp] hps_app

def tbS1 (t : Tb) : Site := { base := 0, blks := [{ z := 3, els := [[.sl 1 (t.xs.map ri), .sl 1 (t.ys.map ri), .sl 1 (t.vs.map rwI)]], ty := 25, fz := true }] }
def spS1 (s : Sp) : Site := { base := 0, blks := [{ z := 2, els := [[.int .i64 s.lo, .int .i64 s.hi]], ty := 29, fz := true }] }
def spS0 (s : Sp) : Site := { base := 0, blks := [{ z := 2, els := [[.int .i64 s.lo, .int .i64 s.hi]], ty := 29 }] }
theorem minI (a b : Int) : (if b < a then b else a) = min a b := by split <;> omega
theorem maxI (a b : Int) : (if a < b then b else a) = max a b := by split <;> omega
noncomputable abbrev rbdS : PSpec := mkP bdE (fun d => bdErr d = 0) fun d => .agg (boundF d).row
noncomputable abbrev E117 : Env := { P := Tryz.prog, fn := tbl [(131, .pure stoS), (132, .pure vlS), (133, .pure frS), (134, .pure crS)], own := [], key := 11700, nt := 80, frz := [(1, [3, 4, 5, 50003, 50004, 50005])] }
theorem b117 : PureBody E117 [] Tryz.f117 rbdS := by
  refine pb ?_
  rintro d h0
  have h0 : bdErr d = 0 := h0
  obtain ⟨ht, ha, hb, la, lb⟩ := bdErr_ok h0
  have hl := tbB_len ht
  have lx : d.t.xs.length ≤ 1000000 := by omega
  have ly : d.t.ys.length ≤ 1000000 := by omega
  have e1 := lsE_dec d.t.xs d.a
  have e2 := lsE_dec d.t.ys d.b
  have x0 := stops_0 d.t.xs d.a
  have y0 := stops_0 d.t.ys d.b
  have xp := stops_pos d.t.xs d.a
  have yp := stops_pos d.t.ys d.b
  have xl := stops_len d.t.xs d.a
  have yl := stops_len d.t.ys d.b
  have x0' : (stops d.t.xs d.a)[0] = d.a.lo := (List.getElem?_eq_some_iff.1 x0).2
  have y0' : (stops d.t.ys d.b)[0] = d.b.lo := (List.getElem?_eq_some_iff.1 y0).2
  have v0 := vl_of h0 (p := (d.a.lo, d.b.lo)) (by simp only; omega) (by simp only; omega) (by simp only; omega) (by simp only; omega)
  have f0 := fr_of v0
  have dv := atE_dec d.t d.a.lo d.b.lo
  have hA := accR_zero d
  have hR : accR d (stops d.t.xs d.a).length = boundF d := by rw [accR_all, rbR_eq h0]
  simp only at v0 f0
  simp -dsimp [Tryz.f117, E117, tabR, Sp.row]
  repeat' (first | omega | (simp -dsimp [E117, ri, cellp, ints, tabR, Sp.row, lx, ly, e1, e2, x0, y0, x0', y0', xp, yp, v0, f0, dv, i2E_dec]) | (refine Also.intro ?_ fun _ => ?_) | (refine Hold.intro fun _ => ?_) | (refine And.intro ?_ ?_))
  refine awp_loop [40, 41, 42, 43, 13, 46, 47, 48, 49, 53, 54, 55, 56, 57, 58, 59, 60, 61, 62, 52, 63, 64, 9, 10, 65, 66, 67, 68, 69, 70, 71, 72, 73, 74, 75, 76, 77, 78, 50, 51, 44, 45, 12] (fun k : { k : Nat // k ≤ (stops d.t.xs d.a).length } => [(12, (true, .int .i64 k.1))]) (fun k => hps [(11711, spS0 (accR d k.1)), (11706, spS0 ⟨0, 0⟩), (11705, spS1 d.b), (11704, spS1 d.a), (11703, tbS1 d.t)] noH) (fun k => (stops d.t.xs d.a).length - k.1) ⟨0, by omega⟩ ?_ ?_ ?_
  · simp [okAll, okv]
  · rw [hA]; exact (by (try simp -dsimp only [hpush_noH, hpush_hps, hps_over]); refine hle_hps ?_; simp -dsimp [allK, spS0, spS1, tbS1]; repeat' (first | (refine And.intro ?_ ?_) | (refine sLe.same ?_ ?_ <;> (simp; done)) | (refine sLe.clear ?_ ?_ <;> (first | (simp; done) | (simp; omega))) | (refine sLe.drop 1 ?_ ?_ ?_ <;> (simp; done))))
  rintro ⟨k, hk⟩
  dsimp only
  by_cases hk1 : k < (stops d.t.xs d.a).length
  · have hki : (k : Int) < (stops d.t.xs d.a).length := by omega
    have wk : IntKind.wrap .i64 ((k : Int) + 1) = (k + 1 : Nat) := wrap_id (by omega) (by omega)
    obtain ⟨x, hx, hx'⟩ := get_ex hk1
    have hS := accR_succ (d := d) hx
    have hx2 := stops_in ha.2.1 (hx' ▸ List.getElem_mem hk1)
    generalize accR d k = A at *
    simp -dsimp [hki]
    repeat' (first | omega | (simp -dsimp [E117, ri, cellp, ints, hki, hk1, hx, hx', spS0, spS1, tbS1]) | (refine Also.intro ?_ fun _ => ?_) | (refine Hold.intro fun _ => ?_) | (refine And.intro ?_ ?_))
    refine awp_loop [46, 47, 48, 49, 53, 54, 55, 56, 57, 58, 59, 60, 61, 62, 52, 63, 64, 9, 10, 65, 66, 67, 68, 69, 70, 71, 72, 73, 74, 75, 76, 77, 78, 50, 51, 13] (fun j : { j : Nat // j ≤ (stops d.t.ys d.b).length } => [(13, (true, .int .i64 j.1))]) (fun j => hps [(11711, spS0 (accI d A x j.1)), (11706, spS0 ⟨0, 0⟩), (11705, spS1 d.b), (11704, spS1 d.a), (11703, tbS1 d.t)] noH) (fun j => (stops d.t.ys d.b).length - j.1) ⟨0, by omega⟩ ?_ ?_ ?_
    · simp [okAll, okv]
    · rw [show accI d A x 0 = A from rfl]; exact (by (try simp -dsimp only [hpush_noH, hpush_hps, hps_over]); refine hle_hps ?_; simp -dsimp [allK, spS0, spS1, tbS1]; repeat' (first | (refine And.intro ?_ ?_) | (refine sLe.same ?_ ?_ <;> (simp; done)) | (refine sLe.clear ?_ ?_ <;> (first | (simp; done) | (simp; omega))) | (refine sLe.drop 1 ?_ ?_ ?_ <;> (simp; done))))
    rintro ⟨j, hj⟩
    dsimp only
    by_cases hj1 : j < (stops d.t.ys d.b).length
    · have hji : (j : Int) < (stops d.t.ys d.b).length := by omega
      have wj : IntKind.wrap .i64 ((j : Int) + 1) = (j + 1 : Nat) := wrap_id (by omega) (by omega)
      obtain ⟨q, hq, hq'⟩ := get_ex hj1
      have hI := accI_succ (d := d) (s := A) (x := x) hq
      rw [← minI, ← maxI] at hI
      have hq2 := stops_in hb.2.1 (hq' ▸ List.getElem_mem hj1)
      have v1 := vl_of h0 (p := (x, q)) (by simp only; omega) (by simp only; omega) (by simp only; omega) (by simp only; omega)
      have f1 := fr_of v1
      have dw := atE_dec d.t x q
      simp only at v1 f1
      generalize accI d A x j = B at *
      simp -dsimp [hji]
      repeat' (first | omega | (simp -dsimp [E117, ri, cellp, ints, hji, hj1, hki, hk1, hx, hx', hq, hq', v1, f1, dw, i2E_dec, wj, spS0, spS1, tbS1]) | (refine Also.intro ?_ fun _ => ?_) | (refine Hold.intro fun _ => ?_) | (refine And.intro ?_ ?_))
      refine ⟨j + 1, tle_chain rfl ?_, ?_, by omega, by omega⟩
      · simp [okAll, okv]
      · rw [hI]; exact (by (try simp -dsimp only [hpush_noH, hpush_hps, hps_over]); refine hle_hps ?_; simp -dsimp [allK, spS0, spS1, tbS1]; repeat' (first | (refine And.intro ?_ ?_) | (refine sLe.same ?_ ?_ <;> (simp; done)) | (refine sLe.clear ?_ ?_ <;> (first | (simp; done) | (simp; omega))) | (refine sLe.drop 1 ?_ ?_ ?_ <;> (simp; done))))
    · have hjn : ¬ (j : Int) < (stops d.t.ys d.b).length := by omega
      have hj2 : j = (stops d.t.ys d.b).length := by omega
      rw [← hj2] at hS
      simp -dsimp [hjn]
      repeat' (first | omega | (simp -dsimp [E117, ri, cellp, ints, hjn, hki, hk1, hx, hx', wk, spS0, spS1, tbS1]) | (refine Also.intro ?_ fun _ => ?_) | (refine Hold.intro fun _ => ?_) | (refine And.intro ?_ ?_))
      refine ⟨k + 1, tle_kept (kept_upds rfl (kept_forget rfl (kept_upds rfl kept_base))) ?_, ?_, by omega, by omega⟩
      · simp [okAll, okv]
      · rw [hS]; exact (by (try simp -dsimp only [hpush_noH, hpush_hps, hps_over]); refine hle_hps ?_; simp -dsimp [allK, spS0, spS1, tbS1]; repeat' (first | (refine And.intro ?_ ?_) | (refine sLe.same ?_ ?_ <;> (simp; done)) | (refine sLe.clear ?_ ?_ <;> (first | (simp; done) | (simp; omega))) | (refine sLe.drop 1 ?_ ?_ ?_ <;> (simp; done))))
  · have hkn : ¬ (k : Int) < (stops d.t.xs d.a).length := by omega
    have hk2 : k = (stops d.t.xs d.a).length := by omega
    rw [← hk2] at hR
    simp -dsimp [hkn]
    repeat' (first | omega | (simp -dsimp [E117, ri, cellp, ints, hkn, hR, spS0, spS1, tbS1, Sp.row]) | (refine Also.intro ?_ fun _ => ?_) | (refine Hold.intro fun _ => ?_) | (refine And.intro ?_ ?_))
theorem ok117 : FnOK Tryz.prog 117 (.pure rbdS) := pure_fn (E := E117) rfl (.cons ok131 (.cons ok132 (.cons ok133 (.cons ok134 .nil)))) (ok := []) (fn := Tryz.f117) (by kernel_rfl) (by kernel_rfl) (by kernel_rfl) (by kernel_rfl) rfl (fun _ _ => by simp) b117
noncomputable abbrev rbndS : PSpec := mkP bdE (fun d => TbP d.t) fun d => .tup [if bdErr d = 0 then .agg (boundF d).row else .agg [.int .i64 0, .int .i64 0], .int .i64 (bdErr d)]
noncomputable abbrev E94 : Env := { P := Tryz.prog, fn := tbl [(116, .pure ckpS), (117, .pure rbdS)], own := [], key := 9400, nt := 21 }
theorem b94 : PureBody E94 [] Tryz.f94 rbndS := by
  refine pb ?_
  rintro ⟨t, a, b⟩ hP
  have hP : TbP t := hP
  have hd := bdE_dec t a b
  by_cases h0 : bdErr ⟨t, a, b⟩ = 0
  · simp -dsimp [Tryz.f94, E94, tabR, Sp.row]
    repeat' (first | omega | (simp -dsimp [E94, ri, cellp, ints, hP, hd, h0, tabR, Sp.row]) | (refine Also.intro ?_ fun _ => ?_) | (refine Hold.intro fun _ => ?_) | (refine And.intro ?_ ?_))
  · simp -dsimp [Tryz.f94, E94, tabR, Sp.row]
    repeat' (first | omega | (simp -dsimp [E94, ri, cellp, ints, hP, hd, h0, tabR, Sp.row]) | (refine Also.intro ?_ fun _ => ?_) | (refine Hold.intro fun _ => ?_) | (refine And.intro ?_ ?_))
theorem ok94 : FnOK Tryz.prog 94 (.pure rbndS) := pure_fn (E := E94) rfl (.cons ok116 (.cons ok117 .nil)) (ok := []) (fn := Tryz.f94) (by kernel_rfl) (by kernel_rfl) (by kernel_rfl) (by kernel_rfl) rfl (fun _ _ => by simp) b94
end Go.Sx.Rot
end
section
/- The reference's layer 2: tables with values within limits, equal lists. No conditions. -/
set_option linter.unusedSimpArgs false
set_option linter.unusedSectionVars false
set_option maxRecDepth 100000
set_option maxHeartbeats 8000000
namespace Go.Sx.Rot
open Go.Proofs Go.Sx Go.Sx.Tab
attribute [local irreducible] HLe
attribute [local simp] hps_app

noncomputable abbrev E115 : Env := { P := Tryz.prog, fn := tbl [], own := [], key := 11500, nt := 15 }
theorem b115 : PureBody E115 [] Tryz.f115 withinS := by
  refine pb ?_
  rintro ⟨n, a, b⟩ _
  simp -dsimp [Tryz.f115, E115, withinB]
  repeat' (first | omega | (simp -dsimp [E115, ri, cellp, ints, *]) | (refine Also.intro ?_ fun _ => ?_) | (refine Hold.intro fun _ => ?_) | (refine And.intro ?_ ?_))
theorem ok115 : FnOK Tryz.prog 115 (.pure withinS) := pure_fn (E := E115) rfl LOK.nil (ok := []) (fn := Tryz.f115) (by kernel_rfl) (by kernel_rfl) (by kernel_rfl) (by kernel_rfl) rfl (fun _ _ => by simp) b115
noncomputable abbrev E114 : Env := { P := Tryz.prog, fn := tbl [], own := [], key := 11400, nt := 26 }
theorem b114 : PureBody E114 [] Tryz.f114 eqS := by
  refine pb ?_
  rintro ⟨a, b⟩ ⟨ha, hb⟩
  simp only at ha hb
  by_cases hl : a.length = b.length
  case neg =>
    have hz : (a = b) = False := eq_false fun e => hl (by rw [e])
    have hi : ((a.length : Int) = b.length) = False := eq_false (by omega)
    simp -dsimp [Tryz.f114, E114]
    repeat' (first | omega | (simp -dsimp [E114, ri, cellp, ints, hl, hi, hz]) | (refine Also.intro ?_ fun _ => ?_) | (refine Hold.intro fun _ => ?_) | (refine And.intro ?_ ?_))
  have hi : ((a.length : Int) = b.length) = True := eq_true (by omega)
  simp -dsimp [Tryz.f114, E114]
  repeat' (first | omega | (simp -dsimp [E114, ri, cellp, ints, hi]) | (refine Also.intro ?_ fun _ => ?_) | (refine Hold.intro fun _ => ?_) | (refine And.intro ?_ ?_))
  refine awp_loop [11, 12, 13, 14, 17, 18, 19, 20, 21, 22, 23, 24, 25, 4, 15, 16, 5] (fun k : { k : Nat // k ≤ a.length ∧ ∀ j, j < k → a[j]? = b[j]? } => [(5, (true, .int .i64 k.1))]) (fun _ => noH) (fun k => a.length - k.1) ⟨0, by omega, fun _ h => by omega⟩ ?_ (HLe.refl _) ?_
  · simp [okAll, okv]
  rintro ⟨k, hk, hall⟩
  dsimp only
  by_cases hk1 : k < a.length
  · have hki : (k : Int) < a.length := by omega
    have wk : IntKind.wrap .i64 ((k : Int) + 1) = (k + 1 : Nat) := wrap_id (by omega) (by omega)
    have hk2 : k < b.length := by omega
    obtain ⟨x, hx, hx'⟩ := get_ex hk1
    obtain ⟨y, hy, hy'⟩ := get_ex hk2
    by_cases he : x = y
    · simp -dsimp [hki]
      repeat' (first | omega | (simp -dsimp [E114, ri, cellp, ints, hki, hk1, hk2, wk, hx, hx', hy, hy', he]) | (refine Also.intro ?_ fun _ => ?_) | (refine Hold.intro fun _ => ?_) | (refine And.intro ?_ ?_))
      refine ⟨k + 1, tle_chain rfl ?_, HLe.refl _, ⟨by omega, fun j hj => ?_⟩, by omega⟩
      · simp [okAll, okv]
      · by_cases hjk : j = k
        · subst hjk; rw [hx, hy, he]
        · exact hall j (by omega)
    · have hz : (a = b) = False := eq_false fun e => he (by subst e; rw [hx] at hy; cases hy; rfl)
      simp -dsimp [hki]
      repeat' (first | omega | (simp -dsimp [E114, ri, cellp, ints, hki, hk1, hk2, wk, hx, hx', hy, hy', he, hz]) | (refine Also.intro ?_ fun _ => ?_) | (refine Hold.intro fun _ => ?_) | (refine And.intro ?_ ?_))
  · have hkn : ¬ (k : Int) < a.length := by omega
    have hz : (a = b) = True := eq_true (List.ext_getElem? fun j => by
      by_cases h : j < k
      · exact hall j h
      · rw [List.getElem?_eq_none (by omega), List.getElem?_eq_none (by omega)])
    simp -dsimp [hkn]
    repeat' (first | omega | (simp -dsimp [E114, ri, cellp, ints, hkn, hz]) | (refine Also.intro ?_ fun _ => ?_) | (refine Hold.intro fun _ => ?_) | (refine And.intro ?_ ?_))
theorem ok114 : FnOK Tryz.prog 114 (.pure eqS) := pure_fn (E := E114) rfl LOK.nil (ok := []) (fn := Tryz.f114) (by kernel_rfl) (by kernel_rfl) (by kernel_rfl) (by kernel_rfl) rfl (fun _ _ => by simp) b114
@[simp] def fiE (l : Lim) : List V := [.agg (tabR l.t), .int .i64 l.lo, .int .i64 l.hi]
theorem fiE_inj (a b : Lim) (h : fiE a = fiE b) : a = b := by
  obtain ⟨a1, a2, a3⟩ := a; obtain ⟨b1, b2, b3⟩ := b
  simp only [fiE, List.cons.injEq, V.agg.injEq, V.int.injEq, true_and, and_true] at h
  rw [tabR_inj _ _ h.1, h.2.1, h.2.2]
theorem fiE_dec (t : Tb) (a b : Int) : decC fiE [.agg [.sl 1 (t.xs.map ri), .sl 1 (t.ys.map ri), .sl 1 (t.vs.map rwI)], .int .i64 a, .int .i64 b] = ⟨t, a, b⟩ := decC_eq fiE_inj ⟨t, a, b⟩
noncomputable abbrev fiS : PSpec := mkP fiE (fun l => TbP l.t) fun l => .bool (limB l)
noncomputable abbrev E113 : Env := { P := Tryz.prog, fn := tbl [(129, .pure ctS), (115, .pure withinS)], own := [], key := 11300, nt := 38 }
theorem b113 : PureBody E113 [] Tryz.f113 fiS := by
  refine pb ?_
  rintro ⟨t, lo, hi⟩ hP
  have hP : TbP t := hP
  cases h1 : tbB t
  · have hz : limB ⟨t, lo, hi⟩ = false := by simp [limB, h1]
    simp -dsimp [Tryz.f113, E113, tabR]
    repeat' (first | omega | (simp -dsimp [E113, ri, cellp, ints, hP, h1, tbE_dec, tabR, hz]) | (refine Also.intro ?_ fun _ => ?_) | (refine Hold.intro fun _ => ?_) | (refine And.intro ?_ ?_))
  obtain ⟨n1, n2, n3⟩ := tbB_len h1
  have hr := tbB_rows h1
  have hE : limB ⟨t, lo, hi⟩ = !t.vs.any (rowBey ⟨t, lo, hi⟩) := by simp [limB, h1]
  simp -dsimp [Tryz.f113, E113, tabR]
  repeat' (first | omega | (simp -dsimp [E113, ri, cellp, ints, hP, h1, tbE_dec, tabR]) | (refine Also.intro ?_ fun _ => ?_) | (refine Hold.intro fun _ => ?_) | (refine And.intro ?_ ?_))
  refine awp_loop [12, 13, 14, 15, 16, 8, 19, 20, 21, 22, 23, 26, 27, 28, 29, 30, 31, 32, 33, 34, 35, 36, 37, 6, 24, 25, 17, 18, 7] (fun k : { k : Nat // k ≤ t.xs.length ∧ (t.vs.take k).any (rowBey ⟨t, lo, hi⟩) = false } => [(7, (true, .int .i64 k.1))]) (fun _ => hps [(11303, tbS t)] noH) (fun k => t.xs.length - k.1) ⟨0, by omega, by simp⟩ ?_ ?_ ?_
  · simp [okAll, okv]
  · exact (by (try simp -dsimp only [hpush_noH, hpush_hps, hps_over]); refine hle_hps ?_; simp -dsimp [allK, tbS]; repeat' (first | (refine And.intro ?_ ?_) | (refine sLe.same ?_ ?_ <;> (simp; done)) | (refine sLe.clear ?_ ?_ <;> (first | (simp; done) | (simp; omega))) | (refine sLe.drop 1 ?_ ?_ ?_ <;> (simp; done))))
  rintro ⟨k, hk, hall⟩
  dsimp only
  by_cases hk1 : k < t.xs.length
  · have hki : (k : Int) < t.xs.length := by omega
    have wk : IntKind.wrap .i64 ((k : Int) + 1) = (k + 1 : Nat) := wrap_id (by omega) (by omega)
    have hkv : k < t.vs.length := by omega
    obtain ⟨x, hx, hx'⟩ := get_ex hkv
    have c : x.length = t.ys.length := hr x (hx' ▸ List.getElem_mem hkv)
    have hB : rowBey ⟨t, lo, hi⟩ x = true → limB ⟨t, lo, hi⟩ = false := fun h => by
      rw [hE, List.any_eq_true.2 ⟨x, hx' ▸ List.getElem_mem hkv, h⟩]; rfl
    have hG : rowBey ⟨t, lo, hi⟩ x = false → (t.vs.take (k + 1)).any (rowBey ⟨t, lo, hi⟩) = false := fun h => by
      rw [List.take_add_one, List.any_append, hall, hx]; simp [h]
    simp -dsimp [hki]
    repeat' (first | omega | (simp -dsimp [E113, ri, cellp, ints, hki, hk1, hkv, hx, hx', rwI, tbS]) | (refine Also.intro ?_ fun _ => ?_) | (refine Hold.intro fun _ => ?_) | (refine And.intro ?_ ?_))
    refine awp_loop [19, 20, 21, 22, 23, 26, 27, 28, 29, 30, 31, 32, 33, 34, 35, 36, 37, 6, 24, 25, 8] (fun j : { j : Nat // j ≤ t.ys.length ∧ (x.take j).any (beyP ⟨t, lo, hi⟩) = false } => [(8, (true, .int .i64 j.1))]) (fun _ => hps [(11303, tbS t)] noH) (fun j => t.ys.length - j.1) ⟨0, by omega, by simp⟩ ?_ ?_ ?_
    · simp [okAll, okv]
    · exact (by (try simp -dsimp only [hpush_noH, hpush_hps, hps_over]); refine hle_hps ?_; simp -dsimp [allK, tbS]; repeat' (first | (refine And.intro ?_ ?_) | (refine sLe.same ?_ ?_ <;> (simp; done)) | (refine sLe.clear ?_ ?_ <;> (first | (simp; done) | (simp; omega))) | (refine sLe.drop 1 ?_ ?_ ?_ <;> (simp; done))))
    rintro ⟨j, hj, hin⟩
    dsimp only
    by_cases hj1 : j < t.ys.length
    · have hji : (j : Int) < t.ys.length := by omega
      have wj : IntKind.wrap .i64 ((j : Int) + 1) = (j + 1 : Nat) := wrap_id (by omega) (by omega)
      have hjx : j < x.length := by omega
      obtain ⟨p, hp, hp'⟩ := get_ex hjx
      have hf : beyP ⟨t, lo, hi⟩ p = !withinB p lo hi := rfl
      cases hw : withinB p lo hi
      · have hz := hB (List.any_eq_true.2 ⟨p, hp' ▸ List.getElem_mem hjx, by rw [hf, hw]; rfl⟩)
        simp -dsimp [hji]
        repeat' (first | omega | (simp -dsimp [E113, ri, cellp, ints, hji, hj1, hjx, hki, hk1, hkv, hx, hx', hp, hp', rwI, tbS, hw, hz]) | (refine Also.intro ?_ fun _ => ?_) | (refine Hold.intro fun _ => ?_) | (refine And.intro ?_ ?_))
      · have hj' : (x.take (j + 1)).any (beyP ⟨t, lo, hi⟩) = false := by rw [List.take_add_one, List.any_append, hin, hp]; simp [hf, hw]
        simp -dsimp [hji]
        repeat' (first | omega | (simp -dsimp [E113, ri, cellp, ints, hji, hj1, hjx, hki, hk1, hkv, hx, hx', hp, hp', rwI, tbS, hw, wj]) | (refine Also.intro ?_ fun _ => ?_) | (refine Hold.intro fun _ => ?_) | (refine And.intro ?_ ?_))
        refine ⟨j + 1, tle_chain rfl ?_, ?_, ⟨by omega, ?_⟩, by omega⟩
        · simp [okAll, okv]
        · exact (by (try simp -dsimp only [hpush_noH, hpush_hps, hps_over]); refine hle_hps ?_; simp -dsimp [allK, tbS]; repeat' (first | (refine And.intro ?_ ?_) | (refine sLe.same ?_ ?_ <;> (simp; done)) | (refine sLe.clear ?_ ?_ <;> (first | (simp; done) | (simp; omega))) | (refine sLe.drop 1 ?_ ?_ ?_ <;> (simp; done))))
        · simpa using hj'
    · have hjn : ¬ (j : Int) < t.ys.length := by omega
      have hj2 : j = x.length := by omega
      simp -dsimp [hjn]
      repeat' (first | omega | (simp -dsimp [E113, ri, cellp, ints, hjn, hki, hk1, hkv, hx, hx', wk, rwI, tbS]) | (refine Also.intro ?_ fun _ => ?_) | (refine Hold.intro fun _ => ?_) | (refine And.intro ?_ ?_))
      refine ⟨k + 1, tle_kept (kept_upds rfl (kept_forget rfl (kept_upds rfl kept_base))) ?_, ?_, ⟨by omega, ?_⟩, by omega⟩
      · simp [okAll, okv]
      · exact (by (try simp -dsimp only [hpush_noH, hpush_hps, hps_over]); refine hle_hps ?_; simp -dsimp [allK, tbS]; repeat' (first | (refine And.intro ?_ ?_) | (refine sLe.same ?_ ?_ <;> (simp; done)) | (refine sLe.clear ?_ ?_ <;> (first | (simp; done) | (simp; omega))) | (refine sLe.drop 1 ?_ ?_ ?_ <;> (simp; done))))
      · rw [hj2, List.take_length] at hin
        have := hG hin
        simpa using this
  · have hkn : ¬ (k : Int) < t.xs.length := by omega
    have hk2 : k = t.vs.length := by omega
    have hz : limB ⟨t, lo, hi⟩ = true := by rw [hk2, List.take_length] at hall; rw [hE, hall]; rfl
    simp -dsimp [hkn]
    repeat' (first | omega | (simp -dsimp [E113, ri, cellp, ints, hkn, hz, tbS]) | (refine Also.intro ?_ fun _ => ?_) | (refine Hold.intro fun _ => ?_) | (refine And.intro ?_ ?_))
theorem ok113 : FnOK Tryz.prog 113 (.pure fiS) := pure_fn (E := E113) rfl (.cons ok129 (.cons ok115 .nil)) (ok := []) (fn := Tryz.f113) (by kernel_rfl) (by kernel_rfl) (by kernel_rfl) (by kernel_rfl) rfl (fun _ _ => by simp) b113
end Go.Sx.Rot
end
