/- A part of a proof; no conditions. -/
import Derived.Test.YtnpdjaikmdagmaaGreatDoorP23
set_option linter.unusedSimpArgs false
set_option linter.unusedVariables false
set_option linter.unusedSectionVars false
section
/- Tables: fractions, and the value at a point. No conditions. -/
set_option linter.unusedSimpArgs false
set_option linter.unusedSectionVars false
set_option maxRecDepth 100000
set_option maxHeartbeats 4000000
namespace Go.Sx.Tab
open Go.Proofs Go.Sx
attribute [local irreducible] HLe
attribute [local simp] hps_app

theorem floor_prog (m w : Int) (hw : 0 < w) : (if m.tmod w < 0 then m.tdiv w - 1 else m.tdiv w) = m / w := by
  rcases Int.le_total 0 m with h | h
  · rw [Int.tdiv_eq_ediv_of_nonneg h, Int.tmod_eq_emod_of_nonneg h, if_neg (by have := Int.emod_nonneg m (Int.ne_of_gt hw); omega)]
  · obtain ⟨k, rfl⟩ : ∃ k, m = -k := ⟨-m, by omega⟩
    have hk : 0 ≤ k := by omega
    rw [Int.neg_tmod, Int.neg_tdiv, Int.tdiv_eq_ediv_of_nonneg hk, Int.tmod_eq_emod_of_nonneg hk]
    have e := Int.mul_ediv_add_emod k w
    have e2 := Int.emod_nonneg k (Int.ne_of_gt hw)
    have e3 := Int.emod_lt_of_pos k hw
    generalize k / w = q at *
    generalize k % w = t at *
    split
    · rename_i h0
      symm
      rw [Int.ediv_eq_iff_of_pos hw]
      rw [Int.sub_mul, Int.neg_mul, Int.mul_comm q w]
      omega
    · symm
      rw [Int.ediv_eq_iff_of_pos hw]
      rw [Int.neg_mul, Int.mul_comm q w]
      omega
structure Bd (m : Int) : Prop where
  lo : -1000000000000000000 ≤ m
  hi : m ≤ 1000000000000000000
theorem ediv_bd {m w : Int} (hw : 0 < w) (hm : Bd m) : Bd (m / w) := by
  obtain ⟨h1, h2⟩ := hm
  rcases Int.le_total 0 m with h | h
  · have h1 := Int.ediv_nonneg h (Int.le_of_lt hw)
    have h2 := Int.ediv_le_self w h
    exact ⟨by omega, by omega⟩
  · have h1 : m / w ≤ 0 := by
      have := Int.ediv_le_ediv hw h
      simpa using this
    have h2 : m ≤ m / w := by
      rw [Int.le_ediv_iff_mul_le hw]
      have := Int.mul_le_mul_of_nonpos_left (a := m) (b := w) (c := 1) h (by omega)
      omega
    exact ⟨by omega, by omega⟩
structure FlP (d : Int × Int) : Prop where
  n : Bd d.1
  w : 0 < d.2
noncomputable abbrev floS : PSpec := mkP i2E FlP fun d => .int .i64 (d.1 / d.2)
noncomputable abbrev ceiS : PSpec := mkP i2E FlP fun d => .int .i64 (-(-d.1 / d.2))
noncomputable abbrev E43 : Env := { P := Tryz.prog, fn := tbl [], own := [], key := 4300, nt := 16 }
theorem b43 : PureBody E43 [] Tryz.f43 floS := by
  refine pb ?_
  rintro ⟨m, w⟩ ⟨hm, hw⟩
  simp only at hm hw
  have hf := floor_prog m w hw
  have hb := ediv_bd hw hm
  obtain ⟨b1, b2⟩ := hb
  have hw0 : (w = 0) = False := eq_false (by omega)
  generalize hq : m / w = q at *
  generalize ht : m.tdiv w = t at *
  generalize hu : m.tmod w = u at *
  by_cases h0 : u < 0
  · rw [if_pos h0] at hf
    have w1 : IntKind.wrap .i64 t = t := wrap_id (by omega) (by omega)
    have w2 : IntKind.wrap .i64 (t - 1) = q := by rw [wrap_id (by omega) (by omega)]; exact hf
    simp -dsimp [Tryz.f43, E43]
    repeat' (first | omega | (simp -dsimp [E43, ri, cellp, ints, hw0, ht, hu, hq, w1, w2, h0]) | (refine Also.intro ?_ fun _ => ?_) | (refine Hold.intro fun _ => ?_) | (refine And.intro ?_ ?_))
  · rw [if_neg h0] at hf
    have w1 : IntKind.wrap .i64 t = t := wrap_id (by omega) (by omega)
    have h0' : (u < 0) = False := eq_false h0
    subst hf
    simp -dsimp [Tryz.f43, E43]
    repeat' (first | omega | (simp -dsimp [E43, ri, cellp, ints, hw0, ht, hu, hq, w1, h0']) | (refine Also.intro ?_ fun _ => ?_) | (refine Hold.intro fun _ => ?_) | (refine And.intro ?_ ?_))
theorem ok43 : FnOK Tryz.prog 43 (.pure floS) := pure_fn (E := E43) rfl LOK.nil (ok := []) (fn := Tryz.f43) (by kernel_rfl) (by kernel_rfl) (by kernel_rfl) (by kernel_rfl) rfl (fun _ _ => by simp) b43
noncomputable abbrev E76 : Env := { P := Tryz.prog, fn := tbl [(43, .pure floS)], own := [], key := 7600, nt := 10 }
theorem b76 : PureBody E76 [] Tryz.f76 ceiS := by
  refine pb ?_
  rintro ⟨m, w⟩ ⟨⟨h1, h2⟩, hw⟩
  simp only at h1 h2 hw
  have w1 : IntKind.wrap .i64 (-m) = -m := wrap_id (by omega) (by omega)
  have hP : FlP (-m, w) := ⟨⟨by simp only; omega, by simp only; omega⟩, hw⟩
  obtain ⟨b1, b2⟩ := ediv_bd hw hP.n
  simp only at b1 b2
  generalize hq : -m / w = q at *
  have w2 : IntKind.wrap .i64 (-q) = -q := wrap_id (by omega) (by omega)
  simp -dsimp [Tryz.f76, E76]
  repeat' (first | omega | (simp -dsimp [E76, ri, cellp, ints, w1, hP, hq, w2, i2E_dec]) | (refine Also.intro ?_ fun _ => ?_) | (refine Hold.intro fun _ => ?_) | (refine And.intro ?_ ?_))
theorem ok76 : FnOK Tryz.prog 76 (.pure ceiS) := pure_fn (E := E76) rfl (.cons ok43 .nil) (ok := []) (fn := Tryz.f76) (by kernel_rfl) (by kernel_rfl) (by kernel_rfl) (by kernel_rfl) rfl (fun _ _ => by simp) b76
@[simp] def vaE (d : Int × Int) : List V := [.agg [.int .i64 d.1, .int .i64 d.2]]
theorem vaE_inj (a b : Int × Int) (h : vaE a = vaE b) : a = b := by
  simp only [vaE, List.cons.injEq, V.agg.injEq, V.int.injEq, true_and, and_true] at h
  exact Prod.ext h.1 h.2
theorem vaE_dec (a b : Int) : decC vaE [.agg [.int .i64 a, .int .i64 b]] = (a, b) := decC_eq vaE_inj (a, b)
noncomputable abbrev upS : PSpec := mkP vaE FlP fun d => .int .i64 (-(-d.1 / d.2))
noncomputable abbrev E44 : Env := { P := Tryz.prog, fn := tbl [(76, .pure ceiS)], own := [], key := 4400, nt := 8 }
theorem b44 : PureBody E44 [] Tryz.f44 upS := by
  refine pb ?_
  rintro ⟨m, w⟩ hP
  simp -dsimp [Tryz.f44, E44]
  repeat' (first | omega | (simp -dsimp [E44, ri, cellp, ints, hP, i2E_dec]) | (refine Also.intro ?_ fun _ => ?_) | (refine Hold.intro fun _ => ?_) | (refine And.intro ?_ ?_))
theorem ok44 : FnOK Tryz.prog 44 (.pure upS) := pure_fn (E := E44) rfl (.cons ok76 .nil) (ok := []) (fn := Tryz.f44) (by kernel_rfl) (by kernel_rfl) (by kernel_rfl) (by kernel_rfl) rfl (fun _ _ => by simp) b44
/-! the first of two that is not zero -/
@[simp] def twE (d : Int × Int) : List V := [.sl 1 [[.int .i64 d.1], [.int .i64 d.2]]]
theorem twE_inj (a b : Int × Int) (h : twE a = twE b) : a = b := by
  simp only [twE, List.cons.injEq, V.sl.injEq, V.int.injEq, true_and, and_true] at h
  exact Prod.ext h.1 h.2
theorem twE_dec (a b : Int) : decC twE [.sl 1 [[.int .i64 a], [.int .i64 b]]] = (a, b) := decC_eq twE_inj (a, b)
noncomputable abbrev orS : PSpec := mkP twE (fun _ => True) fun d => .int .i64 (if d.1 = 0 then d.2 else d.1)
structure OrI (a b : Int) where
  k : Nat
  le : k ≤ 2
  h1 : 1 ≤ k → a = 0
  h2 : 2 ≤ k → b = 0
noncomputable abbrev E56 : Env := { P := Tryz.prog, fn := tbl [], own := [], key := 5600, nt := 18 }
theorem b56 : PureBody E56 [] Tryz.f56 orS := by
  refine pb ?_
  rintro ⟨a, b⟩ _
  have w1 : IntKind.wrap .i64 1 = 1 := wrap_id (by omega) (by omega)
  have w2 : IntKind.wrap .i64 (1 + 1) = 2 := wrap_id (by omega) (by omega)
  have w3 : IntKind.wrap .i64 2 = 2 := wrap_id (by omega) (by omega)
  simp -dsimp [Tryz.f56, E56]
  refine awp_loop [9, 10, 11, 5, 12, 13, 14, 15, 2, 16, 8] (fun s : OrI a b => [(8, (true, .int .i64 (s.k : Nat)))]) (fun _ => noH) (fun s => 2 - s.k) ⟨0, by omega, fun h => absurd h (by omega), fun h => absurd h (by omega)⟩ ?_ (HLe.refl _) ?_
  · simp [okAll, okv]
  rintro ⟨k, le, h1, h2⟩
  simp only
  rcases (by omega : k = 0 ∨ k = 1 ∨ k = 2) with rfl | rfl | rfl
  · by_cases h : a = 0
    · subst h
      simp -dsimp []
      repeat' (first | omega | (simp -dsimp [E56, ri, cellp, ints, w1]) | (refine Also.intro ?_ fun _ => ?_) | (refine Hold.intro fun _ => ?_) | (refine And.intro ?_ ?_))
      refine ⟨⟨1, by omega, fun _ => rfl, fun h => absurd h (by omega)⟩, tle_chain rfl ?_, HLe.refl _, by simp⟩
      simp [okAll, okv]
    · have h' : (a = 0) = False := eq_false h
      simp -dsimp []
      repeat' (first | omega | (simp -dsimp [E56, ri, cellp, ints, w1, h']) | (refine Also.intro ?_ fun _ => ?_) | (refine Hold.intro fun _ => ?_) | (refine And.intro ?_ ?_))
  · have ha := h1 (by omega)
    subst ha
    by_cases h : b = 0
    · subst h
      simp -dsimp []
      repeat' (first | omega | (simp -dsimp [E56, ri, cellp, ints, w1, w2, w3]) | (refine Also.intro ?_ fun _ => ?_) | (refine Hold.intro fun _ => ?_) | (refine And.intro ?_ ?_))
      refine ⟨⟨2, by omega, fun _ => rfl, fun _ => rfl⟩, tle_chain rfl ?_, HLe.refl _, by simp⟩
      simp [okAll, okv]
    · have h' : (b = 0) = False := eq_false h
      simp -dsimp []
      repeat' (first | omega | (simp -dsimp [E56, ri, cellp, ints, w1, h']) | (refine Also.intro ?_ fun _ => ?_) | (refine Hold.intro fun _ => ?_) | (refine And.intro ?_ ?_))
  · have ha := h1 (by omega)
    have hb := h2 (by omega)
    subst ha hb
    simp -dsimp []
    repeat' (first | omega | (simp -dsimp [E56, ri, cellp, ints, *]) | (refine Also.intro ?_ fun _ => ?_) | (refine Hold.intro fun _ => ?_) | (refine And.intro ?_ ?_))
theorem ok56 : FnOK Tryz.prog 56 (.pure orS) := pure_fn (E := E56) rfl LOK.nil (ok := []) (fn := Tryz.f56) (by kernel_rfl) (by kernel_rfl) (by kernel_rfl) (by kernel_rfl) rfl (fun _ _ => by simp) b56
end Go.Sx.Tab
end
section
/- Tables: comparing values, the value at a point. No conditions. -/
set_option linter.unusedSimpArgs false
set_option linter.unusedSectionVars false
set_option maxRecDepth 100000
set_option maxHeartbeats 4000000
namespace Go.Sx.Tab
open Go.Proofs Go.Sx
attribute [local irreducible] HLe
attribute [local simp] hps_app

theorem mulBd {x y A B : Int} (h1 : 0 ≤ x) (h2 : x ≤ A) (h3 : 0 ≤ y) (h4 : y ≤ B) : 0 ≤ x * y ∧ x * y ≤ A * B :=
  ⟨Int.mul_nonneg h1 h3, Int.mul_le_mul h2 h4 h3 (by omega)⟩
/-- A fraction of a table's values. -/
structure Va (v : Int × Int) : Prop where
  n1 : -1000000000000000 ≤ v.1
  n2 : v.1 ≤ 1000000000000000
  w1 : 0 < v.2
  w2 : v.2 ≤ 100000000
def cmpV (v w : Int × Int) : Int := if v.1 / v.2 - w.1 / w.2 = 0 then (v.1 - v.1 / v.2 * v.2) * w.2 - (w.1 - w.1 / w.2 * w.2) * v.2 else v.1 / v.2 - w.1 / w.2
theorem va_fl {v : Int × Int} (h : Va v) : -1000000000000000 ≤ v.1 / v.2 ∧ v.1 / v.2 ≤ 1000000000000000 ∧ 0 ≤ v.1 - v.1 / v.2 * v.2 ∧ v.1 - v.1 / v.2 * v.2 < v.2 := by
  obtain ⟨h1, h2, h3, h4⟩ := h
  have e1 := Int.ediv_mul_le v.1 (show v.2 ≠ 0 by omega)
  have e2 := Int.lt_ediv_add_one_mul_self v.1 h3
  rw [Int.add_mul, Int.one_mul] at e2
  refine ⟨?_, ?_, by omega, by omega⟩
  · rw [Int.le_ediv_iff_mul_le h3]
    have := Int.mul_le_mul_of_nonpos_left (a := -1000000000000000) (b := v.2) (c := 1) (by omega) (by omega)
    omega
  · by_cases h0 : 0 ≤ v.1
    · have := Int.ediv_le_self v.2 h0; omega
    · have : v.1 / v.2 ≤ 0 := by
        have := Int.ediv_le_ediv h3 (show v.1 ≤ 0 by omega)
        simpa using this
      omega
@[simp] def vvE (d : (Int × Int) × (Int × Int)) : List V := [.agg [.int .i64 d.1.1, .int .i64 d.1.2], .agg [.int .i64 d.2.1, .int .i64 d.2.2]]
theorem vvE_inj (a b : (Int × Int) × (Int × Int)) (h : vvE a = vvE b) : a = b := by
  obtain ⟨⟨a1, a2⟩, a3, a4⟩ := a; obtain ⟨⟨b1, b2⟩, b3, b4⟩ := b
  simp only [vvE, List.cons.injEq, V.agg.injEq, V.int.injEq, true_and, and_true] at h
  rw [h.1.1, h.1.2, h.2.1, h.2.2]
theorem vvE_dec (a b c d : Int) : decC vvE [.agg [.int .i64 a, .int .i64 b], .agg [.int .i64 c, .int .i64 d]] = ((a, b), (c, d)) := decC_eq vvE_inj ((a, b), (c, d))
noncomputable abbrev cmpS : PSpec := mkP vvE (fun d => Va d.1 ∧ Va d.2) fun d => .int .i64 (cmpV d.1 d.2)
theorem Va.fl {v : Int × Int} (h : Va v) : FlP v := ⟨⟨by have := h.n1; omega, by have := h.n2; omega⟩, h.w1⟩
noncomputable abbrev E75 : Env := { P := Tryz.prog, fn := tbl [(43, .pure floS), (56, .pure orS)], own := [], key := 7500, nt := 43 }
theorem b75 : PureBody E75 [] Tryz.f75 cmpS := by
  refine pb ?_
  rintro ⟨⟨n, d⟩, ⟨m, e⟩⟩ ⟨hv, hw⟩
  simp only at hv hw
  have f1 := hv.fl
  have f2 := hw.fl
  obtain ⟨a1, a2, a3, a4⟩ := va_fl hv
  obtain ⟨b1, b2, b3, b4⟩ := va_fl hw
  have hc : cmpV (n, d) (m, e) = if n / d - m / e = 0 then (n - n / d * d) * e - (m - m / e * e) * d else n / d - m / e := rfl
  obtain ⟨v1, v2, v3, v4⟩ := hv
  obtain ⟨w1, w2, w3, w4⟩ := hw
  simp only at *
  generalize hq : n / d = q at *
  generalize hp : m / e = p at *
  obtain ⟨c1, c2⟩ := mulBd a3 (show n - q * d ≤ 100000000 by omega) (show 0 ≤ e by omega) w4
  obtain ⟨d1, d2⟩ := mulBd b3 (show m - p * e ≤ 100000000 by omega) (show 0 ≤ d by omega) v4
  have g0 : IntKind.wrap .i64 (q - p) = q - p := wrap_id (by omega) (by omega)
  have g1 : IntKind.wrap .i64 (q * d) = q * d := wrap_id (by omega) (by omega)
  have g2 : IntKind.wrap .i64 (p * e) = p * e := wrap_id (by omega) (by omega)
  generalize hx : q * d = x at *
  generalize hy : p * e = y at *
  have g3 : IntKind.wrap .i64 (n - x) = n - x := wrap_id (by omega) (by omega)
  have g4 : IntKind.wrap .i64 (m - y) = m - y := wrap_id (by omega) (by omega)
  have g5 : IntKind.wrap .i64 ((n - x) * e) = (n - x) * e := wrap_id (by omega) (by omega)
  have g6 : IntKind.wrap .i64 ((m - y) * d) = (m - y) * d := wrap_id (by omega) (by omega)
  generalize hs : (n - x) * e = s at *
  generalize ht : (m - y) * d = t at *
  have g7 : IntKind.wrap .i64 (s - t) = s - t := wrap_id (by omega) (by omega)
  simp -dsimp [Tryz.f75, E75]
  repeat' (first | omega | (simp -dsimp [E75, ri, cellp, ints, f1, f2, i2E_dec, twE_dec, hq, hp, hx, hy, g0, g1, g2, g3, g4, hs, ht, g5, g6, g7, hc]) | (refine Also.intro ?_ fun _ => ?_) | (refine Hold.intro fun _ => ?_) | (refine And.intro ?_ ?_))
theorem ok75 : FnOK Tryz.prog 75 (.pure cmpS) := pure_fn (E := E75) rfl (.cons ok43 (.cons ok56 .nil)) (ok := []) (fn := Tryz.f75) (by kernel_rfl) (by kernel_rfl) (by kernel_rfl) (by kernel_rfl) rfl (fun _ _ => by simp) b75
end Go.Sx.Tab
end
section
/- Tables: the value at a point, stops, errors. No conditions. -/
set_option linter.unusedSimpArgs false
set_option linter.unusedSectionVars false
set_option maxRecDepth 100000
set_option maxHeartbeats 8000000
namespace Go.Sx.Tab
open Go.Proofs Go.Sx
attribute [local irreducible] HLe
attribute [local simp] hps_app

structure AtD where
  t : Tb
  x : Int
  y : Int
  deriving Inhabited
@[simp] def atE (d : AtD) : List V := [.agg (tabR d.t), .int .i64 d.x, .int .i64 d.y]
theorem atE_inj (a b : AtD) (h : atE a = atE b) : a = b := by
  obtain ⟨a1, a2, a3⟩ := a; obtain ⟨b1, b2, b3⟩ := b
  simp only [atE, List.cons.injEq, V.agg.injEq, V.int.injEq, true_and, and_true] at h
  rw [tabR_inj _ _ h.1, h.2.1, h.2.2]
theorem atE_dec (t : Tb) (x y : Int) : decC atE [.agg [.sl 1 (t.xs.map ri), .sl 1 (t.ys.map ri), .sl 1 (t.vs.map rwI)], .int .i64 x, .int .i64 y] = ⟨t, x, y⟩ := decC_eq atE_inj ⟨t, x, y⟩
def wa (a b : Int) : Int := IntKind.wrap .i64 (a + b)
def ws (a b : Int) : Int := IntKind.wrap .i64 (a - b)
def wm (a b : Int) : Int := IntKind.wrap .i64 (a * b)
def atW (X0 X1 Y0 Y1 p q r s x y : Int) : Int × Int :=
  (wa (wa (wa (wm (wm (ws X1 x) (ws Y1 y)) p) (wm (wm (ws x X0) (ws Y1 y)) q)) (wm (wm (ws X1 x) (ws y Y0)) r)) (wm (wm (ws x X0) (ws y Y0)) s), wm (wa (ws X1 x) (ws x X0)) (wa (ws Y1 y) (ws y Y0)))
def atV (t : Tb) (x y : Int) : Int × Int :=
  atW (t.xs.getD (celN t.xs x) 0) (t.xs.getD (celN t.xs x + 1) 0) (t.ys.getD (celN t.ys y) 0) (t.ys.getD (celN t.ys y + 1) 0)
    (t.v (celN t.xs x) (celN t.ys y)) (t.v (celN t.xs x + 1) (celN t.ys y)) (t.v (celN t.xs x) (celN t.ys y + 1)) (t.v (celN t.xs x + 1) (celN t.ys y + 1)) x y
noncomputable abbrev atS : PSpec := mkP atE (fun d => tbB d.t = true) fun d => .agg [.int .i64 (atV d.t d.x d.y).1, .int .i64 (atV d.t d.x d.y).2]
theorem tbB_facts {t : Tb} (h : tbB t = true) : axB t.xs = true ∧ axB t.ys = true ∧ t.vs.length = t.xs.length ∧ ∀ r ∈ t.vs, r.length = t.ys.length ∧ ∀ n ∈ r, -1000000 ≤ n ∧ n ≤ 1000000 := by
  simp only [tbB, Bool.and_eq_true, decide_eq_true_eq, Bool.not_eq_true', List.any_eq_false] at h
  obtain ⟨h1, h2, h3, h4⟩ := h
  refine ⟨h1, h2, h3, fun r hr => ?_⟩
  have := h4 r hr
  simp only [rowBad, Bool.or_eq_true, Bool.not_eq_true', decide_eq_false_iff_not, not_or, Decidable.not_not, List.any_eq_true, not_exists, not_and] at this
  refine ⟨this.1, fun n hn => ?_⟩
  have h5 := this.2 n hn
  have h6 : withinB n (-1000000) 1000000 = true := by simpa [far6] using h5
  simpa [withinB] using h6
theorem row_at {t : Tb} (h : tbB t = true) {i k : Nat} (hi : i < t.xs.length) (hk : k < t.ys.length) : ∃ r, t.vs[i]? = some r ∧ ∃ n, r[k]? = some n ∧ t.v i k = n := by
  obtain ⟨_, _, h3, h4⟩ := tbB_facts h
  obtain ⟨r, hr, hr'⟩ := get_ex (show i < t.vs.length by omega)
  have hrl := (h4 r (by rw [← hr']; exact List.getElem_mem _)).1
  obtain ⟨n, hn, hn'⟩ := get_ex (show k < r.length by omega)
  exact ⟨r, hr, n, hn, by simp [Tb.v, List.getD, hr, hn]⟩
noncomputable abbrev E127 : Env := { P := Tryz.prog, fn := tbl [(141, .pure celS)], own := [], key := 12700, nt := 113 }
theorem b127 : PureBody E127 [] Tryz.f127 atS := by
  refine pb ?_
  rintro ⟨t, x, y⟩ ht
  have ht : tbB t = true := ht
  obtain ⟨hax, hay, hvl, _⟩ := tbB_facts ht
  have lx := axB_len hax
  have ly := axB_len hay
  have hi := celN_lt lx.1 x
  have hk := celN_lt ly.1 y
  have hV : atV t x y = atW (t.xs.getD (celN t.xs x) 0) (t.xs.getD (celN t.xs x + 1) 0) (t.ys.getD (celN t.ys y) 0) (t.ys.getD (celN t.ys y + 1) 0)
    (t.v (celN t.xs x) (celN t.ys y)) (t.v (celN t.xs x + 1) (celN t.ys y)) (t.v (celN t.xs x) (celN t.ys y + 1)) (t.v (celN t.xs x + 1) (celN t.ys y + 1)) x y := rfl
  have hdx := bsE_dec t.xs x
  have hdy := bsE_dec t.ys y
  generalize hgi : celN t.xs x = i at *
  generalize hgk : celN t.ys y = k at *
  have hi0 : i < t.xs.length := by omega
  have hk0 : k < t.ys.length := by omega
  have hvi0 : i < t.vs.length := by omega
  have hvi1 : i + 1 < t.vs.length := by omega
  have wi : IntKind.wrap .i64 ((i : Int) + 1) = (i : Int) + 1 := wrap_id (by omega) (by omega)
  have wk : IntKind.wrap .i64 ((k : Int) + 1) = (k : Int) + 1 := wrap_id (by omega) (by omega)
  obtain ⟨X0, a1, a1'⟩ := get_ex hi0
  obtain ⟨X1, a2, a2'⟩ := get_ex hi
  obtain ⟨Y0, a3, a3'⟩ := get_ex hk0
  obtain ⟨Y1, a4, a4'⟩ := get_ex hk
  obtain ⟨r0, b1, p, c1, d1⟩ := row_at ht hi0 hk0
  obtain ⟨r1, b2, q, c2, d2⟩ := row_at ht hi hk0
  obtain ⟨r0', b3, r, c3, d3⟩ := row_at ht hi0 hk
  obtain ⟨r1', b4, s, c4, d4⟩ := row_at ht hi hk
  have : r0' = r0 := by rw [b1] at b3; exact (Option.some.inj b3).symm
  subst this
  have : r1' = r1 := by rw [b2] at b4; exact (Option.some.inj b4).symm
  subst this
  have b1' : t.vs[i] = r0' := (List.getElem?_eq_some_iff.1 b1).2
  have b2' : t.vs[i + 1] = r1' := (List.getElem?_eq_some_iff.1 b2).2
  have q1 := (List.getElem?_eq_some_iff.1 c1).1
  have q2 := (List.getElem?_eq_some_iff.1 c2).1
  have q3 := (List.getElem?_eq_some_iff.1 c3).1
  have q4 := (List.getElem?_eq_some_iff.1 c4).1
  have c1' : r0'[k] = p := (List.getElem?_eq_some_iff.1 c1).2
  have c2' : r1'[k] = q := (List.getElem?_eq_some_iff.1 c2).2
  have c3' : r0'[k + 1] = r := (List.getElem?_eq_some_iff.1 c3).2
  have c4' : r1'[k + 1] = s := (List.getElem?_eq_some_iff.1 c4).2
  rw [show t.xs.getD i 0 = X0 by simp [List.getD, a1], show t.xs.getD (i + 1) 0 = X1 by simp [List.getD, a2], show t.ys.getD k 0 = Y0 by simp [List.getD, a3], show t.ys.getD (k + 1) 0 = Y1 by simp [List.getD, a4], d1, d2, d3, d4] at hV
  simp -dsimp [Tryz.f127, E127, tabR]
  repeat' (first | omega | (simp -dsimp [E127, ri, cellp, ints, hax, hay, hdx, hdy, hgi, hgk, wi, wk, hi0, hk0, hi, hk, hvi0, hvi1, a1, a2, a3, a4, a1', a2', a3', a4', b1, b2, b1', b2', c1, c2, c3, c4, c1', c2', c3', c4', q1, q2, q3, q4, rwI, hV, atW, wa, ws, wm]) | (refine Also.intro ?_ fun _ => ?_) | (refine Hold.intro fun _ => ?_) | (refine And.intro ?_ ?_))
theorem ok127 : FnOK Tryz.prog 127 (.pure atS) := pure_fn (E := E127) rfl (.cons ok141 .nil) (ok := []) (fn := Tryz.f127) (by kernel_rfl) (by kernel_rfl) (by kernel_rfl) (by kernel_rfl) rfl (fun _ _ => by simp) b127
end Go.Sx.Tab
end
section
/- Tables: stops, errors, corners. No conditions. -/
set_option linter.unusedSimpArgs false
set_option linter.unusedSectionVars false
set_option maxRecDepth 100000
set_option maxHeartbeats 8000000
namespace Go.Sx.Tab
open Go.Proofs Go.Sx
attribute [local irreducible] HLe
attribute [local simp] hps_app

/-- The stops up to the k-th knot. -/
def stT (l : List Int) (s : Sp) (k : Nat) : List Int := s.lo :: (l.take k).filter fun x => decide (s.lo < x ∧ x < s.hi)
theorem stT_succ {l : List Int} {s : Sp} {k : Nat} {x : Int} (h : l[k]? = some x) : stT l s (k + 1) = stT l s k ++ if s.lo < x ∧ x < s.hi then [x] else [] := by
  unfold stT
  rw [List.take_add_one, h, List.filter_append]
  simp [List.filter_cons]
theorem stT_len (l : List Int) (s : Sp) (k : Nat) : (stT l s k).length ≤ k + 1 := by
  have := List.length_filter_le (fun x => decide (s.lo < x ∧ x < s.hi)) (l.take k)
  rw [List.length_take] at this
  simp only [stT, List.length_cons]; omega
theorem stT_all (l : List Int) (s : Sp) : stops l s = stT l s l.length ++ if s.lo < s.hi then [s.hi] else [] := by
  simp [stops, stT]
theorem stops_len (l : List Int) (s : Sp) : (stops l s).length ≤ l.length + 2 := by
  rw [stT_all, List.length_append]
  have := stT_len l s l.length
  split <;> simp <;> omega
noncomputable abbrev stoS : PSpec := mkP lsE (fun d => d.1.length ≤ 1000000) fun d => ints (stops d.1 d.2)
noncomputable abbrev E126 : Env := { P := Tryz.prog, fn := tbl [], own := [10], key := 12600, nt := 43 }
theorem b126 : PureBody E126 [] Tryz.f126 stoS := by
  refine pb ?_
  rintro ⟨l, s⟩ hl
  have hl : l.length ≤ 1000000 := hl
  simp -dsimp [Tryz.f126, E126, Sp.row]
  repeat' (first | omega | (simp -dsimp [E126, ri, cellp, ints, hl, Sp.row]) | (refine Also.intro ?_ fun _ => ?_) | (refine Hold.intro fun _ => ?_) | (refine And.intro ?_ ?_))
  refine awp_loop [14, 15, 16, 7, 17, 18, 19, 20, 21, 22, 23, 24, 25, 26, 27, 28, 29, 30, 5, 31, 13] (fun k : { k : Nat // k ≤ l.length } => [(13, (true, .int .i64 k.1)), (5, (true, .bsl 12610 0 (stT l s k.1).length))])
    (fun k => hps [(12610, { base := 0, blks := [{ z := 1, els := (stT l s k.1).map ri, ty := 3 }] }), (12603, { base := 0, blks := [{ z := 2, els := [[.int .i64 s.lo, .int .i64 s.hi]], ty := 61 }] })] noH) (fun k => l.length - k.1) ⟨0, by omega⟩ ?_ ?_ ?_
  · simp [okAll, okv, stT]
  · exact (by (try simp -dsimp only [hpush_noH, hpush_hps, hps_over]); refine hle_hps ?_; simp -dsimp [allK, stT, ri]; repeat' (first | (refine And.intro ?_ ?_) | (refine sLe.same ?_ ?_ <;> (simp; done)) | (refine sLe.clear ?_ ?_ <;> (first | (simp; done) | (simp; omega))) | (refine sLe.drop 1 ?_ ?_ ?_ <;> (simp; done))))
  rintro ⟨k, hk⟩
  dsimp only
  by_cases hk1 : k < l.length
  · have hki : ((k : Int) < l.length) = True := eq_true (by omega)
    have wk : IntKind.wrap .i64 ((k : Int) + 1) = (k + 1 : Nat) := wrap_id (by omega) (by omega)
    obtain ⟨x, hx, hx'⟩ := get_ex hk1
    have hT := stT_succ (s := s) hx
    have hTl := stT_len l s k
    have hTne : (stT l s k).map ri ≠ [] := by simp [stT]
    generalize stT l s k = T at *
    have hb8 : (T.length + 1) * 8 ≤ 140737488355328 := by omega
    by_cases h1 : s.lo < x
    · by_cases h2 : x < s.hi
      · rw [if_pos ⟨h1, h2⟩] at hT
        simp -dsimp [hki]
        repeat' (first | omega | (simp -dsimp [E126, ri, cellp, ints, hki, hk1, hx, hx', wk, h1, h2, hb8]) | (refine Also.intro ?_ fun _ => ?_) | (refine Hold.intro fun _ => ?_) | (refine And.intro ?_ ?_))
        refine ⟨k + 1, tle_chain rfl ?_, (by (try simp -dsimp only [hpush_noH, hpush_hps, hps_over]); refine hle_hps ?_; simp -dsimp [allK, hT, ri]; repeat' (first | (refine And.intro ?_ ?_) | (refine sLe.same ?_ ?_ <;> (simp; done)) | (refine sLe.clear ?_ ?_ <;> (first | (simp; done) | (simp; omega))) | (refine sLe.drop 1 ?_ ?_ ?_ <;> (simp; done)))), by omega, by omega⟩
        simp [okAll, okv, hT]
      · rw [if_neg (fun h => h2 h.2), List.append_nil] at hT
        have h2' : (x < s.hi) = False := eq_false h2
        simp -dsimp [hki]
        repeat' (first | omega | (simp -dsimp [E126, ri, cellp, ints, hki, hk1, hx, hx', wk, h1, h2', hb8]) | (refine Also.intro ?_ fun _ => ?_) | (refine Hold.intro fun _ => ?_) | (refine And.intro ?_ ?_))
        refine ⟨k + 1, tle_chain rfl ?_, (by (try simp -dsimp only [hpush_noH, hpush_hps, hps_over]); refine hle_hps ?_; simp -dsimp [allK, hT, ri]; repeat' (first | (refine And.intro ?_ ?_) | (refine sLe.same ?_ ?_ <;> (simp; done)) | (refine sLe.clear ?_ ?_ <;> (first | (simp; done) | (simp; omega))) | (refine sLe.drop 1 ?_ ?_ ?_ <;> (simp; done)))), by omega, by omega⟩
        simp [okAll, okv, hT]
    · rw [if_neg (fun h => h1 h.1), List.append_nil] at hT
      have h1' : (s.lo < x) = False := eq_false h1
      simp -dsimp [hki]
      repeat' (first | omega | (simp -dsimp [E126, ri, cellp, ints, hki, hk1, hx, hx', wk, h1', hb8]) | (refine Also.intro ?_ fun _ => ?_) | (refine Hold.intro fun _ => ?_) | (refine And.intro ?_ ?_))
      refine ⟨k + 1, tle_chain rfl ?_, (by (try simp -dsimp only [hpush_noH, hpush_hps, hps_over]); refine hle_hps ?_; simp -dsimp [allK, hT, ri]; repeat' (first | (refine And.intro ?_ ?_) | (refine sLe.same ?_ ?_ <;> (simp; done)) | (refine sLe.clear ?_ ?_ <;> (first | (simp; done) | (simp; omega))) | (refine sLe.drop 1 ?_ ?_ ?_ <;> (simp; done)))), by omega, by omega⟩
      simp [okAll, okv, hT]
  have hkn : ((k : Int) < l.length) = False := eq_false (by omega)
  have hke : k = l.length := by omega
  subst hke
  have hA := stT_all l s
  have hTl := stT_len l s l.length
  generalize stT l s l.length = T at *
  have hb8 : (T.length + 1) * 8 ≤ 140737488355328 := by omega
  by_cases h : s.lo < s.hi
  · rw [if_pos h] at hA
    simp -dsimp [hkn]
    repeat' (first | omega | (simp -dsimp [E126, ri, cellp, ints, hkn, h, hb8, hA, ri]) | (refine Also.intro ?_ fun _ => ?_) | (refine Hold.intro fun _ => ?_) | (refine And.intro ?_ ?_))
  · rw [if_neg h, List.append_nil] at hA
    have h' : (s.lo < s.hi) = False := eq_false h
    simp -dsimp [hkn]
    repeat' (first | omega | (simp -dsimp [E126, ri, cellp, ints, hkn, h', hA]) | (refine Also.intro ?_ fun _ => ?_) | (refine Hold.intro fun _ => ?_) | (refine And.intro ?_ ?_))
theorem ok126 : FnOK Tryz.prog 126 (.pure stoS) := pure_fn (E := E126) rfl LOK.nil (ok := []) (fn := Tryz.f126) (by kernel_rfl) (by kernel_rfl) (by kernel_rfl) (by kernel_rfl) rfl (fun _ _ => by simp) b126
/-! errors -/
structure BdD where
  t : Tb
  a : Sp
  b : Sp
  deriving Inhabited
@[simp] def bdE (d : BdD) : List V := [.agg (tabR d.t), .agg d.a.row, .agg d.b.row]
theorem bdE_inj (a b : BdD) (h : bdE a = bdE b) : a = b := by
  obtain ⟨a1, a2, a3⟩ := a; obtain ⟨b1, b2, b3⟩ := b
  simp only [bdE, List.cons.injEq, V.agg.injEq, and_true] at h
  rw [tabR_inj _ _ h.1, Sp.row_inj _ _ h.2.1, Sp.row_inj _ _ h.2.2]
theorem bdE_dec (t : Tb) (a b : Sp) : decC bdE [.agg [.sl 1 (t.xs.map ri), .sl 1 (t.ys.map ri), .sl 1 (t.vs.map rwI)], .agg [.int .i64 a.lo, .int .i64 a.hi], .agg [.int .i64 b.lo, .int .i64 b.hi]] = ⟨t, a, b⟩ := decC_eq bdE_inj ⟨t, a, b⟩
theorem slE_dec2 (a b : Sp) : decC slE [.sl 2 [[.int .i64 a.lo, .int .i64 a.hi], [.int .i64 b.lo, .int .i64 b.hi]]] = [a, b] := decC_eq slE_inj [a, b]
def bdErr (d : BdD) : Int := if tbB d.t = true then (if [d.a, d.b].any spN = true then 10 else if (lieB d.t.xs d.a && lieB d.t.ys d.b) = true then 0 else 1) else 11
noncomputable abbrev ckpS : PSpec := mkP bdE (fun d => TbP d.t) fun d => .int .i64 (bdErr d)
noncomputable abbrev E41 : Env := { P := Tryz.prog, fn := tbl [(71, .pure ctS), (72, .pure spdS), (73, .pure lieS)], own := [], key := 4100, nt := 33 }
theorem b41 : PureBody E41 [] Tryz.f41 ckpS := by
  refine pb ?_
  rintro ⟨t, a, b⟩ hP
  have hP : TbP t := hP
  cases h1 : tbB t
  · have hz : bdErr ⟨t, a, b⟩ = 11 := by simp [bdErr, h1]
    simp -dsimp [Tryz.f41, E41, tabR, Sp.row]
    repeat' (first | omega | (simp -dsimp [E41, ri, cellp, ints, hP, tbE_dec, h1, hz, Sp.row]) | (refine Also.intro ?_ fun _ => ?_) | (refine Hold.intro fun _ => ?_) | (refine And.intro ?_ ?_))
  obtain ⟨hax, hay, _⟩ := tbB_facts h1
  have lx := axB_len hax
  have ly := axB_len hay
  have lx0 : 0 < t.xs.length := by omega
  have ly0 : 0 < t.ys.length := by omega
  have lx1 : t.xs.length ≤ 1000000 := by omega
  have ly1 : t.ys.length ≤ 1000000 := by omega
  cases h2 : [a, b].any spN
  case true =>
    have hz : bdErr ⟨t, a, b⟩ = 10 := by simp [bdErr, h1, h2]
    simp -dsimp [Tryz.f41, E41, tabR, Sp.row]
    repeat' (first | omega | (simp -dsimp [E41, ri, cellp, ints, hP, tbE_dec, h1, h2, slE_dec2, hz, Sp.row]) | (refine Also.intro ?_ fun _ => ?_) | (refine Hold.intro fun _ => ?_) | (refine And.intro ?_ ?_))
  cases h3 : lieB t.xs a
  · have hz : bdErr ⟨t, a, b⟩ = 1 := by simp only [bdErr, h1, h2, h3]; rfl
    simp -dsimp [Tryz.f41, E41, tabR, Sp.row]
    repeat' (first | omega | (simp -dsimp [E41, ri, cellp, ints, hP, tbE_dec, h1, h2, h3, slE_dec2, lsE_dec, lx0, lx1, hz, Sp.row]) | (refine Also.intro ?_ fun _ => ?_) | (refine Hold.intro fun _ => ?_) | (refine And.intro ?_ ?_))
  cases h4 : lieB t.ys b
  · have hz : bdErr ⟨t, a, b⟩ = 1 := by simp only [bdErr, h1, h2, h3, h4]; rfl
    simp -dsimp [Tryz.f41, E41, tabR, Sp.row]
    repeat' (first | omega | (simp -dsimp [E41, ri, cellp, ints, hP, tbE_dec, h1, h2, h3, h4, slE_dec2, lsE_dec, lx0, lx1, ly0, ly1, hz, Sp.row]) | (refine Also.intro ?_ fun _ => ?_) | (refine Hold.intro fun _ => ?_) | (refine And.intro ?_ ?_))
  · have hz : bdErr ⟨t, a, b⟩ = 0 := by simp only [bdErr, h1, h2, h3, h4]; rfl
    simp -dsimp [Tryz.f41, E41, tabR, Sp.row]
    repeat' (first | omega | (simp -dsimp [E41, ri, cellp, ints, hP, tbE_dec, h1, h2, h3, h4, slE_dec2, lsE_dec, lx0, lx1, ly0, ly1, hz, Sp.row]) | (refine Also.intro ?_ fun _ => ?_) | (refine Hold.intro fun _ => ?_) | (refine And.intro ?_ ?_))
theorem ok41 : FnOK Tryz.prog 41 (.pure ckpS) := pure_fn (E := E41) rfl (.cons ok71 (.cons ok72 (.cons ok73 .nil))) (ok := []) (fn := Tryz.f41) (by kernel_rfl) (by kernel_rfl) (by kernel_rfl) (by kernel_rfl) rfl (fun _ _ => by simp) b41
end Go.Sx.Tab
end
section
/- Tables: corners, as they are yielded. No conditions. -/
set_option linter.unusedSimpArgs false
set_option linter.unusedSectionVars false
set_option maxRecDepth 100000
set_option maxHeartbeats 8000000
namespace Go.Sx.Tab
open Go.Proofs Go.Sx
attribute [local irreducible] HLe

def ptR (t : Tb) (p : Int × Int) : List V := [.agg [.int .i64 p.1, .int .i64 p.2, .int .i64 (atV t p.1 p.2).1, .int .i64 (atV t p.1 p.2).2]]
def pts (xs ys : List Int) : List (Int × Int) := xs.flatMap fun x => ys.map fun y => (x, y)
def cnE (d : BdD) : List V := [.ip 3 [tabR d.t] 0 0, .ip 2 [d.a.row] 0 0, .ip 2 [d.b.row] 0 0]
theorem cnE_inj (a b : BdD) (h : cnE a = cnE b) : a = b := by
  obtain ⟨a1, a2, a3⟩ := a; obtain ⟨b1, b2, b3⟩ := b
  simp only [cnE, List.cons.injEq, V.ip.injEq, true_and, and_true] at h
  rw [tabR_inj _ _ h.1, Sp.row_inj _ _ h.2.1, Sp.row_inj _ _ h.2.2]
noncomputable abbrev cnsS : PSpec := mkP bdE (fun _ => True) fun d => .fn 125 (cnE d)
noncomputable abbrev E74 : Env := { P := Tryz.prog, fn := tbl [], own := [], key := 7400, nt := 8, frz := [(1, [3, 50003, 4, 50004, 5, 50005])] }
theorem b74 : PureBody E74 [] Tryz.f74 cnsS := by
  refine pb ?_
  rintro ⟨t, a, b⟩ _
  simp -dsimp [Tryz.f74, E74, tabR, Sp.row, cnE]
  repeat' (first | omega | (simp -dsimp [E74, ri, cellp, ints, tabR, Sp.row, cnE]) | (refine Also.intro ?_ fun _ => ?_) | (refine Hold.intro fun _ => ?_) | (refine And.intro ?_ ?_))
theorem ok74 : FnOK Tryz.prog 74 (.pure cnsS) := pure_fn (E := E74) rfl LOK.nil (ok := []) (fn := Tryz.f74) (by kernel_rfl) (by kernel_rfl) (by kernel_rfl) (by kernel_rfl) rfl (fun _ _ => by simp) b74
def cnL (d : BdD) : List (Int × Int) := pts (stops d.t.xs d.a) (stops d.t.ys d.b)
open Classical in
noncomputable def cnDec (caps : List V) (_ : Hp) : Prop × List (List V) := if x : ∃ d, caps = cnE d then (tbB x.choose.t = true, (cnL x.choose).map (ptR x.choose.t)) else (False, [])
theorem cnDec_at (d : BdD) (h : Hp) : cnDec (cnE d) h = (tbB d.t = true, (cnL d).map (ptR d.t)) := by
  have hx : ∃ d', cnE d = cnE d' := ⟨d, rfl⟩
  have e : hx.choose = d := (cnE_inj _ _ hx.choose_spec).symm
  simp only [cnDec, dif_pos hx, e]
theorem cnDec_inv {caps : List V} {h : Hp} (hc : (cnDec caps h).1) : ∃ d, caps = cnE d ∧ tbB d.t = true ∧ (cnDec caps h).2 = (cnL d).map (ptR d.t) := by
  simp only [cnDec] at hc ⊢
  by_cases hx : ∃ d, caps = cnE d
  · rw [dif_pos hx] at hc ⊢
    exact ⟨_, hx.choose_spec, hc, rfl⟩
  · rw [dif_neg hx] at hc; exact hc.elim
noncomputable def cnI : Nat → HSpec → HSpec := itS [] [] cnDec
theorem cnI_inv {l : Nat} {Y : HSpec} {args : List V} {h : Hp} (hc : ((cnI l Y).go args h).c) : ∃ d, args = .yld l :: cnE d ∧ Loc Y [] [] ∧ tbB d.t = true ∧ (feed Y ((cnL d).map (ptR d.t)) h).1 ∧
    ((cnI l Y).go args h).v = .tup [] ∧ ((cnI l Y).go args h).h = (feed Y ((cnL d).map (ptR d.t)) h).2 := by
  obtain ⟨caps, rfl, h2, h3, h4, h5, h6, h7⟩ := its_inv hc
  obtain ⟨d, rfl, k1, k2⟩ := cnDec_inv h4
  rw [k2] at h5 h7
  exact ⟨d, rfl, h2, k1, h5, h6, by show ((itS [] [] cnDec l Y).go (.yld l :: cnE d) h).h = _; rw [h7]; rfl⟩
structure CnO (Y : HSpec) (FH : Hp) (t : Tb) (sx sy : List Int) where
  i : Nat
  H : Hp
  hi : i ≤ sx.length
  hf : (feed Y ((pts (sx.drop i) sy).map (ptR t)) H).1 ∧ (feed Y ((pts (sx.drop i) sy).map (ptR t)) H).2 = FH
structure CnN (Y : HSpec) (FH : Hp) (t : Tb) (sx sy : List Int) (i : Nat) (x : Int) where
  k : Nat
  H : Hp
  hk : k ≤ sy.length
  hf : (feed Y ((((sy.drop k).map fun y => (x, y)) ++ pts (sx.drop (i + 1)) sy).map (ptR t)) H).1 ∧ (feed Y ((((sy.drop k).map fun y => (x, y)) ++ pts (sx.drop (i + 1)) sy).map (ptR t)) H).2 = FH
theorem kpCn : ∀ f S, tbl [(126, .pure stoS), (127, .pure atS)] f = some (.heap S) → ∀ args h, (S.go args h).c → (h YS).blks = [] → (S.go args h).h YS = h YS := by
  intro f S hf
  simp only [tbl_cons, tbl_nil] at hf
  split at hf
  · cases hf
  · split at hf
    · cases hf
    · cases hf
noncomputable abbrev E125 : Env := { P := Tryz.prog, fn := tbl [(126, .pure stoS), (127, .pure atS)], own := [], key := 12500, nt := 39 }
theorem b125 : IterBody E125 [] Tryz.f125 cnI := by
  intro l Y args h hc hyb hyf
  obtain ⟨⟨t, a, b⟩, rfl, hloc, ht, hfd, hv, hh⟩ := cnI_inv hc
  simp only at ht hfd hv hh
  rw [hv, hh]
  clear hv hh hc
  obtain ⟨hax, hay, _⟩ := tbB_facts ht
  have lx := axB_len hax
  have ly := axB_len hay
  have lx1 : t.xs.length ≤ 1000000 := by omega
  have ly1 : t.ys.length ≤ 1000000 := by omega
  have sxl := stops_len t.xs a
  have syl := stops_len t.ys b
  have hL : cnL ⟨t, a, b⟩ = pts (stops t.xs a) (stops t.ys b) := rfl
  rw [hL] at hfd ⊢
  clear hL
  obtain ⟨FH, hFH⟩ : ∃ FH, (feed Y ((pts (stops t.xs a) (stops t.ys b)).map (ptR t)) h).2 = FH := ⟨_, rfl⟩
  rw [hFH]
  simp -dsimp [Tryz.f125, E125, cnE, tabR, Sp.row]
  repeat' (first | omega | (simp -dsimp [E125, ri, cellp, ints, cnE, tabR, Sp.row, lsE_dec, lx1, ly1]) | (refine Also.intro ?_ fun _ => ?_) | (refine Hold.intro fun _ => ?_) | (refine And.intro ?_ ?_))
  generalize hsx : stops t.xs a = sx at *
  generalize hsy : stops t.ys b = sy at *
  refine awp_loop [15, 16, 17, 6, 18, 19, 20, 21, 22, 23, 24, 25, 26, 8, 27, 28, 29, 30, 31, 32, 33, 34, 35, 36, 37, 38, 14] (fun q : CnO Y FH t sx sy => [(14, (true, .int .i64 (q.i : Nat)))]) (fun q => q.H) (fun q => sx.length - q.i) { i := 0, H := h, hi := by omega, hf := ⟨by rw [List.drop_zero]; exact hfd, by rw [List.drop_zero]; exact hFH⟩ } ?_ (HLe.refl _) ?_
  · simp [okAll, okv]
  rintro ⟨i, H, hi, hf1, hf2⟩
  dsimp only
  by_cases hi1 : i < sx.length
  case neg =>
    have hin : ((i : Int) < sx.length) = False := eq_false (by omega)
    have hd : sx.drop i = [] := List.drop_eq_nil_of_le (by omega)
    rw [hd] at hf2
    have hfe : H = FH := hf2
    subst hfe
    simp -dsimp [hin]
    repeat' (first | omega | (simp -dsimp [E125, ri, cellp, ints, hin]) | (refine Also.intro ?_ fun _ => ?_) | (refine Hold.intro fun _ => ?_) | (refine And.intro ?_ ?_))
    exact HLe.refl _
  have hii : ((i : Int) < sx.length) = True := eq_true (by omega)
  have wi : IntKind.wrap .i64 ((i : Int) + 1) = (i + 1 : Nat) := wrap_id (by omega) (by omega)
  obtain ⟨x, hx, hx'⟩ := get_ex hi1
  have hdx : sx.drop i = x :: sx.drop (i + 1) := by rw [List.drop_eq_getElem_cons hi1, hx']
  have hp0 : pts (sx.drop i) sy = ((sy.drop 0).map fun y => (x, y)) ++ pts (sx.drop (i + 1)) sy := by rw [hdx, List.drop_zero]; rfl
  rw [hp0] at hf1 hf2
  simp -dsimp [hii]
  repeat' (first | omega | (simp -dsimp [E125, ri, cellp, ints, hii, hi1, hx, hx', lsE_dec, lx1, ly1, hsy, tabR, Sp.row]) | (refine Also.intro ?_ fun _ => ?_) | (refine Hold.intro fun _ => ?_) | (refine And.intro ?_ ?_))
  refine awp_loop [24, 25, 26, 8, 27, 28, 29, 30, 31, 32, 33, 34, 35, 36, 37, 23] (fun q : CnN Y FH t sx sy i x => [(23, (true, .int .i64 (q.k : Nat)))]) (fun q => q.H) (fun q => sy.length - q.k) { k := 0, H := H, hk := by omega, hf := ⟨hf1, hf2⟩ } ?_ (HLe.refl _) ?_
  · simp [okAll, okv]
  rintro ⟨k, H', hk, hg1, hg2⟩
  dsimp only
  by_cases hk1 : k < sy.length
  case neg =>
    have hkn : ((k : Int) < sy.length) = False := eq_false (by omega)
    have hd : sy.drop k = [] := List.drop_eq_nil_of_le (by omega)
    rw [hd, List.map_nil, List.nil_append] at hg1 hg2
    simp -dsimp [hkn]
    repeat' (first | omega | (simp -dsimp [E125, ri, cellp, ints, hkn, wi]) | (refine Also.intro ?_ fun _ => ?_) | (refine Hold.intro fun _ => ?_) | (refine And.intro ?_ ?_))
    refine ⟨{ i := i + 1, H := H', hi := by omega, hf := ⟨hg1, hg2⟩ }, tle_kept (kept_upds rfl (kept_forget rfl (kept_upds rfl kept_base))) ?_, HLe.refl _, by simp only; omega⟩
    simp [okAll, okv, wi]
  have hki : ((k : Int) < sy.length) = True := eq_true (by omega)
  have wk : IntKind.wrap .i64 ((k : Int) + 1) = (k + 1 : Nat) := wrap_id (by omega) (by omega)
  obtain ⟨y, hy, hy'⟩ := get_ex hk1
  have hdy : sy.drop k = y :: sy.drop (k + 1) := by rw [List.drop_eq_getElem_cons hk1, hy']
  rw [hdy, List.map_cons, List.cons_append, List.map_cons] at hg1 hg2
  obtain ⟨hyc, bb, hyv, htr, hfa⟩ := feed_step hg1
  obtain ⟨H2, hH2⟩ : ∃ H2, (Y.go (ptR t (x, y)) H').h = H2 := ⟨_, rfl⟩
  rw [hH2] at hfa htr
  have hgo : Y.go (ptR t (x, y)) H' = ⟨True, .bool bb, H2⟩ := by
    have := hloc.go hyc hyv []
    rw [hH2] at this; exact this
  simp only [ptR] at hgo
  cases bb with
  | false =>
    rw [hfa rfl] at hg2
    subst hg2
    simp -dsimp [hki]
    repeat' (first | omega | (simp -dsimp [E125, ri, cellp, ints, hki, hk1, hy, hy', ht, atE_dec, hgo, tabR]) | (refine Also.intro ?_ fun _ => ?_) | (refine Hold.intro fun _ => ?_) | (refine And.intro ?_ ?_))
    exact HLe.refl _
  | true =>
    obtain ⟨hf3, hf4⟩ := htr rfl
    rw [hf4] at hg2
    simp -dsimp [hki]
    repeat' (first | omega | (simp -dsimp [E125, ri, cellp, ints, hki, hk1, hy, hy', ht, atE_dec, hgo, tabR, wk]) | (refine Also.intro ?_ fun _ => ?_) | (refine Hold.intro fun _ => ?_) | (refine And.intro ?_ ?_))
    refine ⟨{ k := k + 1, H := H2, hk := by omega, hf := ⟨hf3, hg2⟩ }, tle_chain rfl ?_, HLe.refl _, by simp only; omega⟩
    simp [okAll, okv, wk]
theorem ok125 : FnOK Tryz.prog 125 (.iter cnI) := iter_fn (E := E125) rfl (.cons ok126 (.cons ok127 .nil)) (ok := []) (fn := Tryz.f125) (by kernel_rfl) (by kernel_rfl) (by kernel_rfl) (fun _ _ => by kernel_rfl) rfl (fun l Y args h hc => by obtain ⟨d, rfl, _⟩ := cnI_inv hc; simp [cnE]) kpCn b125
end Go.Sx.Tab
end
section
/- Tables: the extremes, Bound, and the look at a table. No conditions. -/
set_option linter.unusedSimpArgs false
set_option linter.unusedSectionVars false
set_option maxRecDepth 100000
set_option maxHeartbeats 8000000
namespace Go.Sx.Tab
open Go.Proofs Go.Sx
attribute [local irreducible] awp HLe atV atW wa ws wm

/-- A point with its value. -/
structure Pq where
  x : Int
  y : Int
  n : Int
  d : Int
  deriving Inhabited
def Pq.row (p : Pq) : List V := [.int .i64 p.x, .int .i64 p.y, .int .i64 p.n, .int .i64 p.d]
theorem Pq.row_inj (a b : Pq) (h : a.row = b.row) : a = b := by
  cases a; cases b
  simp only [Pq.row, List.cons.injEq, V.int.injEq, true_and, and_true] at h
  obtain ⟨rfl, rfl, rfl, rfl⟩ := h; rfl
def pqAt (t : Tb) (p : Int × Int) : Pq := ⟨p.1, p.2, (atV t p.1 p.2).1, (atV t p.1 p.2).2⟩
theorem ptR_eq (t : Tb) (p : Int × Int) : ptR t p = [.agg (pqAt t p).row] := by simp only [ptR, pqAt, Pq.row]
def pqOf (x : List V) : Pq := ⟨((x.getD 0 .top).cs.getD 0 .top).toInt, ((x.getD 0 .top).cs.getD 1 .top).toInt, ((x.getD 0 .top).cs.getD 2 .top).toInt, ((x.getD 0 .top).cs.getD 3 .top).toInt⟩
theorem pqOf_row (p : Pq) : pqOf [.agg p.row] = p := rfl
structure ExS where
  c : Nat
  bg : Bool
  le : Pq
  mo : Pq
def exC (s : ExS) : List (Nat × Site) := [(4206, { base := 0, blks := [{ z := 4, els := [s.le.row], ty := 108 }] }), (4207, { base := 0, blks := [{ z := 4, els := [s.mo.row], ty := 108 }] }), (4208, { base := 0, blks := [{ z := 1, els := [[.bool s.bg]], ty := 4 }] }), (4209, { base := s.c, blks := [] })]
theorem exC_keys (s : ExS) : (exC s).map (·.1) = [4206, 4207, 4208, 4209] := rfl
theorem exC_inj (s s' : ExS) (h : ∀ k ∈ [4206, 4207, 4208, 4209], hps (exC s) noH k = hps (exC s') noH k) : s = s' := by
  have h1 := h 4206 (by simp)
  have h2 := h 4207 (by simp)
  have h3 := h 4208 (by simp)
  have h4 := h 4209 (by simp)
  simp [exC, hps] at h1 h2 h3 h4
  obtain ⟨c, bg, le, mo⟩ := s; obtain ⟨c', bg', le', mo'⟩ := s'
  simp only at h1 h2 h3 h4
  rw [Pq.row_inj _ _ h1, Pq.row_inj _ _ h2, h3, h4]
def Pq.v (p : Pq) : Int × Int := (p.n, p.d)
def ExS.next (s : ExS) (p : Pq) : ExS := ⟨s.c + 1, true, if s.bg = false ∨ cmpV p.v s.le.v < 0 then p else s.le, if s.bg = false ∨ 0 < cmpV p.v s.mo.v then p else s.mo⟩
structure ExS.Ok (s : ExS) (p : Pq) : Prop where
  v : Va p.v
  l : s.bg = true → Va s.le.v
  m : s.bg = true → Va s.mo.v
abbrev exPre (s : ExS) (x : List V) : Prop := ∃ p : Pq, x = [.agg p.row] ∧ s.Ok p
def exRun (s : ExS) (l : List Pq) : ExS := l.foldl ExS.next s
theorem ex_run (t : Tb) : ∀ (l : List (Int × Int)) (s : ExS), (∀ p ∈ l, Va (pqAt t p).v) → (s.bg = true → Va s.le.v ∧ Va s.mo.v) →
    (runS exPre (fun _ _ => true) (fun s x => s.next (pqOf x)) s (l.map (ptR t))).1 ∧ (runS exPre (fun _ _ => true) (fun s x => s.next (pqOf x)) s (l.map (ptR t))).2 = (true, exRun s (l.map (pqAt t)))
  | [], s, _, _ => ⟨trivial, rfl⟩
  | p :: l, s, h, hb => by
    have hp := h p (by simp)
    have hn : (s.next (pqAt t p)).bg = true → Va (s.next (pqAt t p)).le.v ∧ Va (s.next (pqAt t p)).mo.v := fun _ => by
      simp only [ExS.next]
      constructor
      · split
        · exact hp
        · rename_i hc; exact (hb (by cases hs : s.bg; exact absurd (.inl hs) hc; rfl)).1
      · split
        · exact hp
        · rename_i hc; exact (hb (by cases hs : s.bg; exact absurd (.inl hs) hc; rfl)).2
    obtain ⟨h1, h2⟩ := ex_run t l (s.next (pqAt t p)) (fun q hq => h q (by simp [hq])) hn
    simp only [List.map_cons, runS, ptR_eq, pqOf_row]
    exact ⟨⟨⟨_, rfl, hp, fun e => (hb e).1, fun e => (hb e).2⟩, h1⟩, h2⟩
/-- The extremes of a table on a box. -/
def exS0 : ExS := ⟨0, false, ⟨0, 0, 0, 0⟩, ⟨0, 0, 0, 0⟩⟩
def exR (d : BdD) : ExS := exRun exS0 ((cnL d).map (pqAt d.t))
structure ExP (d : BdD) : Prop where
  t : tbB d.t = true
  v : ∀ p ∈ cnL d, Va (pqAt d.t p).v
noncomputable abbrev extS : PSpec := mkP bdE ExP fun d => .tup [.agg (exR d).le.row, .agg (exR d).mo.row]
noncomputable abbrev E42 : Env := { P := Tryz.prog, fn := tbl [(74, .pure cnsS), (125, .iter cnI), (75, .pure cmpS)], own := [], key := 4200, nt := 39 }
theorem b42 : PureBody E42 [(9, ([], [[0, 1, 2, 3], [0, 2, 1, 3]]))] Tryz.f42 extS := by
  refine pb ?_
  rintro ⟨t, a, b⟩ ⟨ht, hva⟩
  simp only at ht hva
  obtain ⟨hr1, hr2⟩ := ex_run t (cnL ⟨t, a, b⟩) exS0 hva (fun e => by cases e)
  simp -dsimp [Tryz.f42, E42, tabR, Sp.row]
  repeat' (first | omega | (simp -dsimp [E42, ri, cellp, ints, tabR, Sp.row, bdE_dec]) | (refine Also.intro ?_ fun _ => ?_) | (refine Hold.intro fun _ => ?_) | (refine And.intro ?_ ?_))
  refine awp_range (LC := exC) (keys := [4206, 4207, 4208, 4209]) (pre := exPre) (go := fun _ _ => true) (nxt := fun s x => s.next (pqOf x)) exC_inj exC_keys exS0 .normal ((cnL ⟨t, a, b⟩).map (ptR t)) (own := []) (ro := []) (dec := cnDec) (by simp; exact ⟨rfl, rfl⟩) (by simp; rfl) rfl (by decide) (by decide) (by decide) ?_ ?_ ?_ ?_ hr1 ?_ ?_ ?_
  · simp [hps, YS, noH]
  · intro k hk
    simp at hk
    rcases hk with rfl | rfl | rfl | rfl <;> simp [hps, exC, exS0, Pq.row, noH]
  · intro k hk
    cases hk
  · rw [cnDec_at]
    exact ⟨ht, rfl⟩
  · rintro s x hb ⟨p, rfl, hv, hl, hm⟩ hy1 hy2
    refine ⟨rfl, ?_⟩
    rw [pqOf_row]
    obtain ⟨c, bg, le, mo⟩ := s
    simp only at hl hm
    have hv' : Va (p.n, p.d) := hv
    cases bg
    · simp -dsimp [E42, setT, exC, ExS.next, Pq.row]
      repeat' (first | omega | (simp -dsimp [E42, ri, cellp, ints, Pq.row]) | (refine Also.intro ?_ fun _ => ?_) | (refine Hold.intro fun _ => ?_) | (refine And.intro ?_ ?_))
      exact (by (try simp -dsimp only [hpush_noH, hpush_hps, hps_over]); refine hle_hpsb ?_; simp -dsimp [allK, Pq.row, exC]; repeat' (first | (refine And.intro ?_ ?_) | (refine sLe.same ?_ ?_ <;> (simp; done)) | (refine sLe.clear ?_ ?_ <;> (first | (simp; done) | (simp; omega))) | (refine sLe.drop 1 ?_ ?_ ?_ <;> (simp; done))))
    · have hl' : Va (le.n, le.d) := hl rfl
      have hm' : Va (mo.n, mo.d) := hm rfl
      have hnx : ExS.next ⟨c, true, le, mo⟩ p = ⟨c + 1, true, if cmpV (p.n, p.d) (le.n, le.d) < 0 then p else le, if 0 < cmpV (p.n, p.d) (mo.n, mo.d) then p else mo⟩ := by
        simp only [ExS.next, Pq.v]; simp
      rw [hnx]
      by_cases h1 : cmpV (p.n, p.d) (le.n, le.d) < 0
      · rw [if_pos h1]
        by_cases h2 : 0 < cmpV (p.n, p.d) (mo.n, mo.d)
        · rw [if_pos h2]
          simp -dsimp [E42, setT, exC, Pq.row]
          repeat' (first | omega | (simp -dsimp [E42, ri, cellp, ints, Pq.row, vvE_dec, hv', hl', hm', h1, h2]) | (refine Also.intro ?_ fun _ => ?_) | (refine Hold.intro fun _ => ?_) | (refine And.intro ?_ ?_))
          exact (by (try simp -dsimp only [hpush_noH, hpush_hps, hps_over]); refine hle_hpsb ?_; simp -dsimp [allK, Pq.row, exC]; repeat' (first | (refine And.intro ?_ ?_) | (refine sLe.same ?_ ?_ <;> (simp; done)) | (refine sLe.clear ?_ ?_ <;> (first | (simp; done) | (simp; omega))) | (refine sLe.drop 1 ?_ ?_ ?_ <;> (simp; done))))
        · rw [if_neg h2]
          have h2' : (0 < cmpV (p.n, p.d) (mo.n, mo.d)) = False := eq_false h2
          simp -dsimp [E42, setT, exC, Pq.row]
          repeat' (first | omega | (simp -dsimp [E42, ri, cellp, ints, Pq.row, vvE_dec, hv', hl', hm', h1, h2']) | (refine Also.intro ?_ fun _ => ?_) | (refine Hold.intro fun _ => ?_) | (refine And.intro ?_ ?_))
          exact (by (try simp -dsimp only [hpush_noH, hpush_hps, hps_over]); refine hle_hpsb ?_; simp -dsimp [allK, Pq.row, exC]; repeat' (first | (refine And.intro ?_ ?_) | (refine sLe.same ?_ ?_ <;> (simp; done)) | (refine sLe.clear ?_ ?_ <;> (first | (simp; done) | (simp; omega))) | (refine sLe.drop 1 ?_ ?_ ?_ <;> (simp; done))))
      · rw [if_neg h1]
        have h1' : (cmpV (p.n, p.d) (le.n, le.d) < 0) = False := eq_false h1
        by_cases h2 : 0 < cmpV (p.n, p.d) (mo.n, mo.d)
        · rw [if_pos h2]
          simp -dsimp [E42, setT, exC, Pq.row]
          repeat' (first | omega | (simp -dsimp [E42, ri, cellp, ints, Pq.row, vvE_dec, hv', hl', hm', h1', h2]) | (refine Also.intro ?_ fun _ => ?_) | (refine Hold.intro fun _ => ?_) | (refine And.intro ?_ ?_))
          exact (by (try simp -dsimp only [hpush_noH, hpush_hps, hps_over]); refine hle_hpsb ?_; simp -dsimp [allK, Pq.row, exC]; repeat' (first | (refine And.intro ?_ ?_) | (refine sLe.same ?_ ?_ <;> (simp; done)) | (refine sLe.clear ?_ ?_ <;> (first | (simp; done) | (simp; omega))) | (refine sLe.drop 1 ?_ ?_ ?_ <;> (simp; done))))
        · rw [if_neg h2]
          have h2' : (0 < cmpV (p.n, p.d) (mo.n, mo.d)) = False := eq_false h2
          simp -dsimp [E42, setT, exC, Pq.row]
          repeat' (first | omega | (simp -dsimp [E42, ri, cellp, ints, Pq.row, vvE_dec, hv', hl', hm', h1', h2']) | (refine Also.intro ?_ fun _ => ?_) | (refine Hold.intro fun _ => ?_) | (refine And.intro ?_ ?_))
          exact (by (try simp -dsimp only [hpush_noH, hpush_hps, hps_over]); refine hle_hpsb ?_; simp -dsimp [allK, Pq.row, exC]; repeat' (first | (refine And.intro ?_ ?_) | (refine sLe.same ?_ ?_ <;> (simp; done)) | (refine sLe.clear ?_ ?_ <;> (first | (simp; done) | (simp; omega))) | (refine sLe.drop 1 ?_ ?_ ?_ <;> (simp; done))))
  · intro _
    rw [hr2]
    have hR : exR ⟨t, a, b⟩ = exRun exS0 ((cnL ⟨t, a, b⟩).map (pqAt t)) := rfl
    rw [hR]
    generalize exRun exS0 ((cnL ⟨t, a, b⟩).map (pqAt t)) = R at *
    obtain ⟨c, bg, le, mo⟩ := R
    simp -dsimp [exC, hps_app, Pq.row]
    repeat' (first | omega | (simp -dsimp [E42, ri, cellp, ints, Pq.row]) | (refine Also.intro ?_ fun _ => ?_) | (refine Hold.intro fun _ => ?_) | (refine And.intro ?_ ?_))
  · intro h
    rw [hr2] at h
    cases h
theorem ok42 : FnOK Tryz.prog 42 (.pure extS) := pure_fn (E := E42) rfl (.cons ok74 (.cons ok125 (.cons ok75 .nil))) (ok := [(9, ([], [[0, 1, 2, 3], [0, 2, 1, 3]]))]) (fn := Tryz.f42) (by kernel_rfl) (by kernel_rfl) (by kernel_rfl) (by kernel_rfl) rfl (fun _ _ => by simp) b42
end Go.Sx.Tab
end
