/- A part of a proof; no conditions. -/
import Derived.Test.YtjpmoggimhmidaaGreatP32
import Derived.Test.YtjpmoggimhmidaaGreatP30
import Derived.Test.YtjpmoggimhmidaaGreatP31
set_option linter.unusedSimpArgs false
set_option linter.unusedVariables false
set_option linter.unusedSectionVars false
section
/- The reference's layer 1: floor, ceil, the part of an axis. No conditions. -/
set_option linter.unusedSimpArgs false
set_option linter.unusedSectionVars false
set_option maxRecDepth 100000
set_option maxHeartbeats 4000000
namespace Go.Sx.Rot
open Go.Proofs Go.Sx Go.Sx.Tab
attribute [local irreducible] HLe
attribute [local simp] hps_app

structure FrP (d : Int × Int) : Prop where
  n : Bd d.1
  w : 0 < d.2
  u : d.2 ≤ 1000000000000000000
noncomputable abbrev frS : PSpec := mkP i2E FrP fun d => .int .i64 (d.1 / d.2)
noncomputable abbrev crS : PSpec := mkP i2E FrP fun d => .int .i64 (-(-d.1 / d.2))
theorem floor_neg {m w : Int} (hm : m < 0) (hw : 0 < w) : -((-m + w - 1).tdiv w) = m / w := by
  rw [Int.tdiv_eq_ediv_of_nonneg (by omega)]
  symm
  rw [Int.ediv_eq_iff_of_pos hw]
  have e := Int.mul_ediv_add_emod (-m + w - 1) w
  have e2 := Int.emod_nonneg (-m + w - 1) (Int.ne_of_gt hw)
  have e3 := Int.emod_lt_of_pos (-m + w - 1) hw
  generalize (-m + w - 1) / w = q at *
  generalize (-m + w - 1) % w = t at *
  rw [Int.neg_mul, Int.mul_comm q w]
  omega
noncomputable abbrev E133 : Env := { P := Tryz.prog, fn := tbl [], own := [], key := 13300, nt := 18 }
theorem b133 : PureBody E133 [] Tryz.f133 frS := by
  refine pb ?_
  rintro ⟨m, w⟩ ⟨⟨h1, h2⟩, hw, hu⟩
  simp only at h1 h2 hw hu
  obtain ⟨b1, b2⟩ := ediv_bd hw (m := m) ⟨h1, h2⟩
  have hw0 : (w = 0) = False := eq_false (by omega)
  by_cases h0 : 0 ≤ m
  · have e : m.tdiv w = m / w := Int.tdiv_eq_ediv_of_nonneg h0
    have w1 : IntKind.wrap .i64 (m / w) = m / w := wrap_id (by omega) (by omega)
    simp -dsimp [Tryz.f133, E133]
    repeat' (first | omega | (simp -dsimp [E133, ri, cellp, ints, hw0, h0, e, w1]) | (refine Also.intro ?_ fun _ => ?_) | (refine Hold.intro fun _ => ?_) | (refine And.intro ?_ ?_))
  · have e := floor_neg (m := m) (by omega) hw
    generalize ht : (-m + w - 1).tdiv w = t at *
    have w1 : IntKind.wrap .i64 (-m) = -m := wrap_id (by omega) (by omega)
    have w2 : IntKind.wrap .i64 (-m + w) = -m + w := wrap_id (by omega) (by omega)
    have w3 : IntKind.wrap .i64 (-m + w - 1) = -m + w - 1 := wrap_id (by omega) (by omega)
    have w4 : IntKind.wrap .i64 t = t := wrap_id (by omega) (by omega)
    have w5 : IntKind.wrap .i64 (-t) = m / w := by rw [wrap_id (by omega) (by omega)]; exact e
    simp -dsimp [Tryz.f133, E133]
    repeat' (first | omega | (simp -dsimp [E133, ri, cellp, ints, hw0, h0, ht, w1, w2, w3, w4, w5]) | (refine Also.intro ?_ fun _ => ?_) | (refine Hold.intro fun _ => ?_) | (refine And.intro ?_ ?_))
theorem ok133 : FnOK Tryz.prog 133 (.pure frS) := pure_fn (E := E133) rfl LOK.nil (ok := []) (fn := Tryz.f133) (by kernel_rfl) (by kernel_rfl) (by kernel_rfl) (by kernel_rfl) rfl (fun _ _ => by simp) b133
noncomputable abbrev E134 : Env := { P := Tryz.prog, fn := tbl [(133, .pure frS)], own := [], key := 13400, nt := 10 }
theorem b134 : PureBody E134 [] Tryz.f134 crS := by
  refine pb ?_
  rintro ⟨m, w⟩ ⟨⟨h1, h2⟩, hw, hu⟩
  simp only at h1 h2 hw hu
  have w1 : IntKind.wrap .i64 (-m) = -m := wrap_id (by omega) (by omega)
  have hP : FrP (-m, w) := ⟨⟨by simp only; omega, by simp only; omega⟩, hw, hu⟩
  obtain ⟨b1, b2⟩ := ediv_bd hw hP.n
  simp only at b1 b2
  generalize hq : -m / w = q at *
  have w2 : IntKind.wrap .i64 (-q) = -q := wrap_id (by omega) (by omega)
  simp -dsimp [Tryz.f134, E134]
  repeat' (first | omega | (simp -dsimp [E134, ri, cellp, ints, w1, hP, hq, w2, i2E_dec]) | (refine Also.intro ?_ fun _ => ?_) | (refine Hold.intro fun _ => ?_) | (refine And.intro ?_ ?_))
theorem ok134 : FnOK Tryz.prog 134 (.pure crS) := pure_fn (E := E134) rfl (.cons ok133 .nil) (ok := []) (fn := Tryz.f134) (by kernel_rfl) (by kernel_rfl) (by kernel_rfl) (by kernel_rfl) rfl (fun _ _ => by simp) b134
@[simp] def ptE (d : List Int × Int) : List V := [ints d.1, .int .i64 d.2]
theorem ptE_inj (a b : List Int × Int) (h : ptE a = ptE b) : a = b := by
  obtain ⟨a1, a2⟩ := a; obtain ⟨b1, b2⟩ := b
  simp only [ptE, List.cons.injEq, V.int.injEq, true_and, and_true] at h
  rw [ints_inj _ _ h.1, h.2]
theorem ptE_dec (l : List Int) (x : Int) : decC ptE [.sl 1 (l.map ri), .int .i64 x] = (l, x) := decC_eq ptE_inj (l, x)
noncomputable abbrev ptS : PSpec := mkP ptE (fun d => 2 ≤ d.1.length ∧ d.1.length ≤ 1000000) fun d => .int .i64 ((partN d.1 d.2 d.1.length 0 : Nat) : Int)
noncomputable abbrev E154 : Env := { P := Tryz.prog, fn := tbl [], own := [], key := 15400, nt := 23 }
theorem b154 : PureBody E154 [] Tryz.f154 ptS := by
  refine pb ?_
  rintro ⟨l, x⟩ ⟨h2, hl⟩
  simp only at h2 hl
  simp -dsimp [Tryz.f154, E154]
  repeat' (first | omega | (simp -dsimp [E154, ri, cellp, ints, h2, hl]) | (refine Also.intro ?_ fun _ => ?_) | (refine Hold.intro fun _ => ?_) | (refine And.intro ?_ ?_))
  refine awp_loop [6, 7, 8, 9, 10, 11, 12, 13, 14, 15, 16, 17, 18, 19, 20, 21, 5] (fun k : { k : Nat // k + 1 < l.length ∧ partN l x (l.length - k) k = partN l x l.length 0 } => [(5, (true, .int .i64 k.1))]) (fun _ => noH) (fun k => l.length - k.1) ⟨0, by omega, rfl⟩ ?_ (HLe.refl _) ?_
  · simp [okAll, okv]
  rintro ⟨k, hk, hall⟩
  dsimp only
  have w2 : IntKind.wrap .i64 ((k : Int) + 2) = (k + 2 : Nat) := by rw [wrap_id (by omega) (by omega)]; omega
  have w1 : IntKind.wrap .i64 ((k : Int) + 1) = (k + 1 : Nat) := wrap_id (by omega) (by omega)
  have hf : l.length - k = (l.length - (k + 1)) + 1 := by omega
  rw [hf, partN] at hall
  by_cases c : k + 2 < l.length
  · have ci : ((k : Int) + 2 < l.length) = True := eq_true (by omega)
    have hk1 : k + 1 < l.length := hk
    obtain ⟨y, hy, hy'⟩ := get_ex hk1
    have gy : l.getD (k + 1) 0 = y := by simp [List.getD, hy]
    rw [gy] at hall
    by_cases c2 : y ≤ x
    · rw [if_pos ⟨c, c2⟩] at hall
      simp -dsimp [w2]
      repeat' (first | omega | (simp -dsimp [E154, ri, cellp, ints, w1, w2, c, ci, hk1, hy, hy', c2]) | (refine Also.intro ?_ fun _ => ?_) | (refine Hold.intro fun _ => ?_) | (refine And.intro ?_ ?_))
      refine ⟨k + 1, tle_chain rfl ?_, HLe.refl _, ⟨by omega, hall⟩, by omega⟩
      simp [okAll, okv]
    · rw [if_neg (fun h => c2 h.2)] at hall
      simp -dsimp [w2]
      repeat' (first | omega | (simp -dsimp [E154, ri, cellp, ints, w1, w2, c, ci, hk1, hy, hy', c2, ← hall]) | (refine Also.intro ?_ fun _ => ?_) | (refine Hold.intro fun _ => ?_) | (refine And.intro ?_ ?_))
  · have ci : ((k : Int) + 2 < l.length) = False := eq_false (by omega)
    rw [if_neg (fun h => c h.1)] at hall
    simp -dsimp [w2]
    repeat' (first | omega | (simp -dsimp [E154, ri, cellp, ints, w1, w2, c, ci, ← hall]) | (refine Also.intro ?_ fun _ => ?_) | (refine Hold.intro fun _ => ?_) | (refine And.intro ?_ ?_))
theorem ok154 : FnOK Tryz.prog 154 (.pure ptS) := pure_fn (E := E154) rfl LOK.nil (ok := []) (fn := Tryz.f154) (by kernel_rfl) (by kernel_rfl) (by kernel_rfl) (by kernel_rfl) rfl (fun _ _ => by simp) b154
end Go.Sx.Rot
end
section
/- The reference's layer 1: the value of a table at a point. No conditions. -/
set_option linter.unusedSimpArgs false
set_option linter.unusedSectionVars false
set_option maxRecDepth 100000
set_option maxHeartbeats 8000000
namespace Go.Sx.Rot
open Go.Proofs Go.Sx Go.Sx.Tab
attribute [local irreducible] HLe
attribute [local simp] hps_app

structure VlP (d : AtD) : Prop where
  t : tbB d.t = true
  x0 : d.t.xs.getD 0 0 ≤ d.x
  x1 : d.x ≤ d.t.xs.getD (d.t.xs.length - 1) 0
  y0 : d.t.ys.getD 0 0 ≤ d.y
  y1 : d.y ≤ d.t.ys.getD (d.t.ys.length - 1) 0
noncomputable abbrev vlS : PSpec := mkP atE VlP fun d => .tup [.int .i64 (valR d.t (d.x, d.y)).1, .int .i64 (valR d.t (d.x, d.y)).2]
noncomputable abbrev E132 : Env := { P := Tryz.prog, fn := tbl [(154, .pure ptS)], own := [], key := 13200, nt := 131 }
theorem b132 : PureBody E132 [] Tryz.f132 vlS := by
  refine pb ?_
  rintro ⟨t, x, y⟩ ⟨ht, x0, x1, y0, y1⟩
  simp only at ht x0 x1 y0 y1
  obtain ⟨hax, hay, hvl, _⟩ := tbB_facts ht
  have lx := axB_len hax
  have ly := axB_len hay
  have iR := partN_in lx.1 (x := x) x1 t.xs.length 0 (by omega) (by omega) x0
  have kR := partN_in ly.1 (x := y) y1 t.ys.length 0 (by omega) (by omega) y0
  have hV : valR t (x, y) = (t.num (partN t.xs x t.xs.length 0) (partN t.ys y t.ys.length 0) x y, t.den (partN t.xs x t.xs.length 0) (partN t.ys y t.ys.length 0)) := rfl
  have hdx := ptE_dec t.xs x
  have hdy := ptE_dec t.ys y
  have px : 2 ≤ t.xs.length ∧ t.xs.length ≤ 1000000 := by omega
  have py : 2 ≤ t.ys.length ∧ t.ys.length ≤ 1000000 := by omega
  generalize hgi : partN t.xs x t.xs.length 0 = i at *
  generalize hgk : partN t.ys y t.ys.length 0 = k at *
  obtain ⟨hi, i1, i2⟩ := iR
  obtain ⟨hk, k1, k2⟩ := kR
  have hi0 : i < t.xs.length := by omega
  have hk0 : k < t.ys.length := by omega
  have hvi0 : i < t.vs.length := by omega
  have hvi1 : i + 1 < t.vs.length := by omega
  have wi : IntKind.wrap .i64 ((i : Int) + 1) = (i : Int) + 1 := wrap_id (by omega) (by omega)
  have wk : IntKind.wrap .i64 ((k : Int) + 1) = (k : Int) + 1 := wrap_id (by omega) (by omega)
  have gx := axB_gap hax hi
  have gy := axB_gap hay hk
  have bx0 := axB_bd hax hi0
  have bx1 := axB_bd hax hi
  have by0 := axB_bd hay hk0
  have by1 := axB_bd hay hk
  have v00 := tv_bd ht hi0 hk0
  have v10 := tv_bd ht hi hk0
  have v01 := tv_bd ht hi0 hk
  have v11 := tv_bd ht hi hk
  obtain ⟨X0, a1, a1'⟩ := get_ex hi0
  obtain ⟨X1, a2, a2'⟩ := get_ex hi
  obtain ⟨Y0, a3, a3'⟩ := get_ex hk0
  obtain ⟨Y1, a4, a4'⟩ := get_ex hk
  obtain ⟨r0, b1, p, c1, d1⟩ := row_at ht hi0 hk0
  obtain ⟨r1, b2, q, c2, d2⟩ := row_at ht hi hk0
  obtain ⟨r0', b3, r, c3, d3⟩ := row_at ht hi0 hk
  obtain ⟨r1', b4, s, c4, d4⟩ := row_at ht hi hk
  have : r0' = r0 := by rw [b1] at b3; exact (Option.some.inj b3).symm
  subst this
  have : r1' = r1 := by rw [b2] at b4; exact (Option.some.inj b4).symm
  subst this
  have b1' : t.vs[i] = r0' := (List.getElem?_eq_some_iff.1 b1).2
  have b2' : t.vs[i + 1] = r1' := (List.getElem?_eq_some_iff.1 b2).2
  have q1 := (List.getElem?_eq_some_iff.1 c1).1
  have q2 := (List.getElem?_eq_some_iff.1 c2).1
  have q3 := (List.getElem?_eq_some_iff.1 c3).1
  have q4 := (List.getElem?_eq_some_iff.1 c4).1
  have c1' : r0'[k] = p := (List.getElem?_eq_some_iff.1 c1).2
  have c2' : r1'[k] = q := (List.getElem?_eq_some_iff.1 c2).2
  have c3' : r0'[k + 1] = r := (List.getElem?_eq_some_iff.1 c3).2
  have c4' : r1'[k + 1] = s := (List.getElem?_eq_some_iff.1 c4).2
  simp only [Tb.num, Tb.den] at hV
  rw [show t.xs.getD i 0 = X0 by simp [List.getD, a1]] at hV gx bx0 i1
  rw [show t.xs.getD (i + 1) 0 = X1 by simp [List.getD, a2]] at hV gx bx1 i2
  rw [show t.ys.getD k 0 = Y0 by simp [List.getD, a3]] at hV gy by0 k1
  rw [show t.ys.getD (k + 1) 0 = Y1 by simp [List.getD, a4]] at hV gy by1 k2
  rw [d1] at hV v00
  rw [d2] at hV v10
  rw [d3] at hV v01
  rw [d4] at hV v11
  have hN := (atW_eq (X0 := X0) (X1 := X1) (Y0 := Y0) (Y1 := Y1) (p := p) (q := q) (r := r) (s := s) (x := x) (y := y) i1 i2 (by omega) k1 k2 (by omega) (by omega) (by omega) v00 v10 v01 v11).1
  have m5 := mulBd (x := X1 - X0) (y := Y1 - Y0) (A := 10000) (B := 10000) (by omega) (by omega) (by omega) (by omega)
  have e1 : IntKind.wrap .i64 (X1 - X0) = X1 - X0 := wrap_id (by omega) (by omega)
  have e2 : IntKind.wrap .i64 (Y1 - Y0) = Y1 - Y0 := wrap_id (by omega) (by omega)
  have e3 : IntKind.wrap .i64 ((X1 - X0) * (Y1 - Y0)) = (X1 - X0) * (Y1 - Y0) := wrap_id (by omega) (by omega)
  have hN1 := congrArg Prod.fst hN
  simp -dsimp only [atW, wa, ws, wm] at hN1
  simp -dsimp [Tryz.f132, E132, tabR]
  repeat' (first | omega | (simp -dsimp [E132, ri, cellp, ints, hax, hay, hdx, hdy, px, py, hgi, hgk, wi, wk, hi0, hk0, hi, hk, hvi0, hvi1, a1, a2, a3, a4, a1', a2', a3', a4', b1, b2, b1', b2', c1, c2, c3, c4, c1', c2', c3', c4', q1, q2, q3, q4, rwI, hV, hN1, e1, e2, e3]) | (refine Also.intro ?_ fun _ => ?_) | (refine Hold.intro fun _ => ?_) | (refine And.intro ?_ ?_))
theorem ok132 : FnOK Tryz.prog 132 (.pure vlS) := pure_fn (E := E132) rfl (.cons ok154 .nil) (ok := []) (fn := Tryz.f132) (by kernel_rfl) (by kernel_rfl) (by kernel_rfl) (by kernel_rfl) rfl (fun _ _ => by simp) b132
end Go.Sx.Rot
end
section
/- The reference's layer 1: corners, the errors of a bound. No conditions. -/
set_option linter.unusedSimpArgs false
set_option linter.unusedSectionVars false
set_option maxRecDepth 100000
set_option maxHeartbeats 8000000
namespace Go.Sx.Rot
open Go.Proofs Go.Sx Go.Sx.Tab
attribute [local irreducible] HLe
attribute [local simp] hps_app

noncomputable abbrev E131 : Env := { P := Tryz.prog, fn := tbl [], own := [9], key := 13100, nt := 50 }
theorem b131 : PureBody E131 [] Tryz.f131 stoS := by
  refine pb ?_
  rintro ⟨l, s⟩ hl
  have hl : l.length ≤ 1000000 := hl
  simp -dsimp [Tryz.f131, E131, Sp.row]
  repeat' (first | omega | (simp -dsimp [E131, ri, cellp, ints, hl, Sp.row]) | (refine Also.intro ?_ fun _ => ?_) | (refine Hold.intro fun _ => ?_) | (refine And.intro ?_ ?_))
  refine awp_loop [10, 11, 12, 13, 16, 17, 18, 19, 20, 21, 22, 23, 24, 25, 26, 27, 28, 29, 30, 31, 32, 33, 34, 35, 36, 37, 38, 5, 14, 15, 6] (fun k : { k : Nat // k ≤ l.length } => [(6, (true, .int .i64 k.1)), (5, (true, .bsl 13109 0 (stT l s k.1).length))])
    (fun k => hps [(13109, { base := 0, blks := [{ z := 1, els := (stT l s k.1).map ri, ty := 3 }] }), (13103, { base := 0, blks := [{ z := 2, els := [[.int .i64 s.lo, .int .i64 s.hi]], ty := 29 }] })] noH) (fun k => l.length - k.1) ⟨0, by omega⟩ ?_ ?_ ?_
  · simp [okAll, okv, stT]
  · exact (by (try simp -dsimp only [hpush_noH, hpush_hps, hps_over]); refine hle_hps ?_; simp -dsimp [allK, stT, ri]; repeat' (first | (refine And.intro ?_ ?_) | (refine sLe.same ?_ ?_ <;> (simp; done)) | (refine sLe.clear ?_ ?_ <;> (first | (simp; done) | (simp; omega))) | (refine sLe.drop 1 ?_ ?_ ?_ <;> (simp; done))))
  rintro ⟨k, hk⟩
  dsimp only
  by_cases hk1 : k < l.length
  · have hki : ((k : Int) < l.length) = True := eq_true (by omega)
    have wk : IntKind.wrap .i64 ((k : Int) + 1) = (k + 1 : Nat) := wrap_id (by omega) (by omega)
    obtain ⟨x, hx, hx'⟩ := get_ex hk1
    have hT := stT_succ (s := s) hx
    have hTl := stT_len l s k
    have hTne : (stT l s k).map ri ≠ [] := by simp [stT]
    generalize stT l s k = T at *
    have hb8 : (T.length + 1) * 8 ≤ 140737488355328 := by omega
    by_cases h1 : s.lo < x
    · by_cases h2 : x < s.hi
      · rw [if_pos ⟨h1, h2⟩] at hT
        simp -dsimp [hki]
        repeat' (first | omega | (simp -dsimp [E131, ri, cellp, ints, hki, hk1, hx, hx', wk, h1, h2, hb8]) | (refine Also.intro ?_ fun _ => ?_) | (refine Hold.intro fun _ => ?_) | (refine And.intro ?_ ?_))
        refine ⟨k + 1, tle_chain rfl ?_, (by (try simp -dsimp only [hpush_noH, hpush_hps, hps_over]); refine hle_hps ?_; simp -dsimp [allK, hT, ri]; repeat' (first | (refine And.intro ?_ ?_) | (refine sLe.same ?_ ?_ <;> (simp; done)) | (refine sLe.clear ?_ ?_ <;> (first | (simp; done) | (simp; omega))) | (refine sLe.drop 1 ?_ ?_ ?_ <;> (simp; done)))), by omega, by omega⟩
        simp [okAll, okv, hT]
      · rw [if_neg (fun h => h2 h.2), List.append_nil] at hT
        have h2' : (x < s.hi) = False := eq_false h2
        simp -dsimp [hki]
        repeat' (first | omega | (simp -dsimp [E131, ri, cellp, ints, hki, hk1, hx, hx', wk, h1, h2', hb8]) | (refine Also.intro ?_ fun _ => ?_) | (refine Hold.intro fun _ => ?_) | (refine And.intro ?_ ?_))
        refine ⟨k + 1, tle_chain rfl ?_, (by (try simp -dsimp only [hpush_noH, hpush_hps, hps_over]); refine hle_hps ?_; simp -dsimp [allK, hT, ri]; repeat' (first | (refine And.intro ?_ ?_) | (refine sLe.same ?_ ?_ <;> (simp; done)) | (refine sLe.clear ?_ ?_ <;> (first | (simp; done) | (simp; omega))) | (refine sLe.drop 1 ?_ ?_ ?_ <;> (simp; done)))), by omega, by omega⟩
        simp [okAll, okv, hT]
    · rw [if_neg (fun h => h1 h.1), List.append_nil] at hT
      have h1' : (s.lo < x) = False := eq_false h1
      simp -dsimp [hki]
      repeat' (first | omega | (simp -dsimp [E131, ri, cellp, ints, hki, hk1, hx, hx', wk, h1', hb8]) | (refine Also.intro ?_ fun _ => ?_) | (refine Hold.intro fun _ => ?_) | (refine And.intro ?_ ?_))
      refine ⟨k + 1, tle_chain rfl ?_, (by (try simp -dsimp only [hpush_noH, hpush_hps, hps_over]); refine hle_hps ?_; simp -dsimp [allK, hT, ri]; repeat' (first | (refine And.intro ?_ ?_) | (refine sLe.same ?_ ?_ <;> (simp; done)) | (refine sLe.clear ?_ ?_ <;> (first | (simp; done) | (simp; omega))) | (refine sLe.drop 1 ?_ ?_ ?_ <;> (simp; done)))), by omega, by omega⟩
      simp [okAll, okv, hT]
  have hkn : ((k : Int) < l.length) = False := eq_false (by omega)
  have hke : k = l.length := by omega
  subst hke
  have hA := stT_all l s
  have hTl := stT_len l s l.length
  generalize stT l s l.length = T at *
  have hb8 : (T.length + 1) * 8 ≤ 140737488355328 := by omega
  by_cases h : s.lo < s.hi
  · rw [if_pos h] at hA
    simp -dsimp [hkn]
    repeat' (first | omega | (simp -dsimp [E131, ri, cellp, ints, hkn, h, hb8, hA, ri]) | (refine Also.intro ?_ fun _ => ?_) | (refine Hold.intro fun _ => ?_) | (refine And.intro ?_ ?_))
  · rw [if_neg h, List.append_nil] at hA
    have h' : (s.lo < s.hi) = False := eq_false h
    simp -dsimp [hkn]
    repeat' (first | omega | (simp -dsimp [E131, ri, cellp, ints, hkn, h', hA]) | (refine Also.intro ?_ fun _ => ?_) | (refine Hold.intro fun _ => ?_) | (refine And.intro ?_ ?_))
theorem ok131 : FnOK Tryz.prog 131 (.pure stoS) := pure_fn (E := E131) rfl LOK.nil (ok := []) (fn := Tryz.f131) (by kernel_rfl) (by kernel_rfl) (by kernel_rfl) (by kernel_rfl) rfl (fun _ _ => by simp) b131
noncomputable abbrev E116 : Env := { P := Tryz.prog, fn := tbl [(129, .pure ctS), (130, .pure twoS), (92, .pure lieS)], own := [], key := 11600, nt := 31 }
theorem b116 : PureBody E116 [] Tryz.f116 ckpS := by
  refine pb ?_
  rintro ⟨t, a, b⟩ hP
  have hP : TbP t := hP
  cases h1 : tbB t
  · have hz : bdErr ⟨t, a, b⟩ = 11 := by simp [bdErr, h1]
    simp -dsimp [Tryz.f116, E116, tabR, Sp.row]
    repeat' (first | omega | (simp -dsimp [E116, ri, cellp, ints, hP, h1, tbE_dec, tabR, Sp.row, hz]) | (refine Also.intro ?_ fun _ => ?_) | (refine Hold.intro fun _ => ?_) | (refine And.intro ?_ ?_))
  have hl := tbB_len h1
  have h2 : 2 ≤ t.xs.length ∧ 2 ≤ t.ys.length := by
    simp only [tbB, Bool.and_eq_true] at h1
    exact ⟨(axB_len h1.1).1, (axB_len h1.2.1).1⟩
  have px : 0 < t.xs.length ∧ t.xs.length ≤ 1000000 := by omega
  have py : 0 < t.ys.length ∧ t.ys.length ≤ 1000000 := by omega
  have d1 := twE_dec a b
  have d2 := lsE_dec t.xs a
  have d3 := lsE_dec t.ys b
  cases h3 : [a, b].any spN
  · cases h4 : lieB t.xs a
    · have hz : bdErr ⟨t, a, b⟩ = 1 := by simp only [bdErr, h1, h3, h4, if_true]; rfl
      simp -dsimp [Tryz.f116, E116, tabR, Sp.row]
      repeat' (first | omega | (simp -dsimp [E116, ri, cellp, ints, hP, h1, tbE_dec, tabR, Sp.row, d1, d2, d3, px, py, h3, h4, hz]) | (refine Also.intro ?_ fun _ => ?_) | (refine Hold.intro fun _ => ?_) | (refine And.intro ?_ ?_))
    · cases h5 : lieB t.ys b
      · have hz : bdErr ⟨t, a, b⟩ = 1 := by simp only [bdErr, h1, h3, h4, h5, if_true]; rfl
        simp -dsimp [Tryz.f116, E116, tabR, Sp.row]
        repeat' (first | omega | (simp -dsimp [E116, ri, cellp, ints, hP, h1, tbE_dec, tabR, Sp.row, d1, d2, d3, px, py, h3, h4, h5, hz]) | (refine Also.intro ?_ fun _ => ?_) | (refine Hold.intro fun _ => ?_) | (refine And.intro ?_ ?_))
      · have hz : bdErr ⟨t, a, b⟩ = 0 := by simp only [bdErr, h1, h3, h4, h5, if_true]; rfl
        simp -dsimp [Tryz.f116, E116, tabR, Sp.row]
        repeat' (first | omega | (simp -dsimp [E116, ri, cellp, ints, hP, h1, tbE_dec, tabR, Sp.row, d1, d2, d3, px, py, h3, h4, h5, hz]) | (refine Also.intro ?_ fun _ => ?_) | (refine Hold.intro fun _ => ?_) | (refine And.intro ?_ ?_))
  · have hz : bdErr ⟨t, a, b⟩ = 10 := by simp only [bdErr, h1, h3, if_true]
    simp -dsimp [Tryz.f116, E116, tabR, Sp.row]
    repeat' (first | omega | (simp -dsimp [E116, ri, cellp, ints, hP, h1, tbE_dec, tabR, Sp.row, d1, px, py, h3, hz]) | (refine Also.intro ?_ fun _ => ?_) | (refine Hold.intro fun _ => ?_) | (refine And.intro ?_ ?_))
theorem ok116 : FnOK Tryz.prog 116 (.pure ckpS) := pure_fn (E := E116) rfl (.cons ok129 (.cons ok130 (.cons ok92 .nil))) (ok := []) (fn := Tryz.f116) (by kernel_rfl) (by kernel_rfl) (by kernel_rfl) (by kernel_rfl) rfl (fun _ _ => by simp) b116
end Go.Sx.Rot
end
section
/- The reference's layer 1: bound. No conditions. -/
set_option linter.unusedSimpArgs false
set_option linter.unusedSectionVars false
set_option maxRecDepth 100000
set_option maxHeartbeats 8000000
namespace Go.Sx.Rot
open Go.Proofs Go.Sx Go.Sx.Tab
attribute [local irreducible] HLe
attribute [local simp] hps_app

theorem rbRun_app (s : Sp) (a b : List (Int × Int)) : rbRun s (a ++ b) = rbRun (rbRun s a) b := List.foldl_append
theorem vl_of {d : BdD} (h : bdErr d = 0) {p : Int × Int} (x0 : d.a.lo ≤ p.1) (x1 : p.1 ≤ d.a.hi) (y0 : d.b.lo ≤ p.2) (y1 : p.2 ≤ d.b.hi) : VlP ⟨d.t, p.1, p.2⟩ := by
  obtain ⟨ht, _, _, la, lb⟩ := bdErr_ok h
  have a0 := la.1; have a1 := la.2; have b0 := lb.1; have b1 := lb.2
  exact ⟨ht, by simp only; omega, by simp only; omega, by simp only; omega, by simp only; omega⟩
theorem fr_of {d : AtD} (h : VlP d) : FrP (valR d.t (d.x, d.y)) := by
  obtain ⟨ht, x0, x1, y0, y1⟩ := h
  obtain ⟨hax, hay, hvl, _⟩ := tbB_facts ht
  have lx := axB_len hax
  have ly := axB_len hay
  have iR := partN_in lx.1 (x := d.x) x1 d.t.xs.length 0 (by omega) (by omega) x0
  have kR := partN_in ly.1 (x := d.y) y1 d.t.ys.length 0 (by omega) (by omega) y0
  have hp := Tb.den_pos (axB_asc hax) (axB_asc hay) iR kR
  have hn := num_ge (t := d.t) (L := -1000000) (H := 1000000) (fun i k hi hk => tv_bd ht hi hk) iR kR
  have gx := axB_gap hax iR.1
  have gy := axB_gap hay kR.1
  have m5 := mulBd (x := d.t.xs.getD (partN d.t.xs d.x d.t.xs.length 0 + 1) 0 - d.t.xs.getD (partN d.t.xs d.x d.t.xs.length 0) 0) (y := d.t.ys.getD (partN d.t.ys d.y d.t.ys.length 0 + 1) 0 - d.t.ys.getD (partN d.t.ys d.y d.t.ys.length 0) 0) (A := 10000) (B := 10000) (by omega) (by omega) (by omega) (by omega)
  have hd : d.t.den (partN d.t.xs d.x d.t.xs.length 0) (partN d.t.ys d.y d.t.ys.length 0) ≤ 100000000 := m5.2
  have e1 : (valR d.t (d.x, d.y)).1 = d.t.num (partN d.t.xs d.x d.t.xs.length 0) (partN d.t.ys d.y d.t.ys.length 0) d.x d.y := rfl
  have e2 : (valR d.t (d.x, d.y)).2 = d.t.den (partN d.t.xs d.x d.t.xs.length 0) (partN d.t.ys d.y d.t.ys.length 0) := rfl
  exact ⟨⟨by rw [e1]; omega, by rw [e1]; omega⟩, by rw [e2]; exact hp, by rw [e2]; omega⟩
def accR (d : BdD) (k : Nat) : Sp := rbRun (Tab.rbS d) ((pts ((stops d.t.xs d.a).take k) (stops d.t.ys d.b)).map (valR d.t))
def accI (d : BdD) (s : Sp) (x : Int) (j : Nat) : Sp := rbRun s (((stops d.t.ys d.b).take j).map fun q => valR d.t (x, q))
theorem accI_succ {d : BdD} {s : Sp} {x q : Int} {j : Nat} (h : (stops d.t.ys d.b)[j]? = some q) :
    accI d s x (j + 1) = ⟨min (accI d s x j).lo ((valR d.t (x, q)).1 / (valR d.t (x, q)).2), max (accI d s x j).hi (-(-(valR d.t (x, q)).1 / (valR d.t (x, q)).2))⟩ := by
  unfold accI
  rw [List.take_add_one, h, List.map_append, rbRun_app]
  rfl
theorem accR_succ {d : BdD} {x : Int} {k : Nat} (h : (stops d.t.xs d.a)[k]? = some x) : accR d (k + 1) = accI d (accR d k) x (stops d.t.ys d.b).length := by
  unfold accR accI
  rw [List.take_add_one, h]
  simp only [pts, List.flatMap_append, List.map_append, rbRun_app, Option.toList_some, List.flatMap_cons, List.flatMap_nil, List.append_nil, List.take_length, List.map_map]
  rfl
theorem accR_all (d : BdD) : accR d (stops d.t.xs d.a).length = rbR d := by
  unfold accR rbR cnL
  rw [List.take_length]
theorem accR_zero (d : BdD) : accR d 0 = ⟨(valR d.t (d.a.lo, d.b.lo)).1 / (valR d.t (d.a.lo, d.b.lo)).2, -(-(valR d.t (d.a.lo, d.b.lo)).1 / (valR d.t (d.a.lo, d.b.lo)).2)⟩ := by
  simp [accR, pts, rbRun, Tab.rbS, flV, ceV]
theorem stops_0 (l : List Int) (s : Sp) : (stops l s)[0]? = some s.lo := by simp [stops]
theorem stops_pos (l : List Int) (s : Sp) : 0 < (stops l s).length := by simp [stops]
end Go.Sx.Rot
end
