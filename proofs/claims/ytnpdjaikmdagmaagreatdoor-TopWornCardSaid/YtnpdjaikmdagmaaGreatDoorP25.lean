/- A part of a proof; no conditions. -/
import Derived.Test.YtnpdjaikmdagmaaGreatDoorP24
import Derived.Test.YtnpdjaikmdagmaaGreatDoorP19
import Derived.Test.YtnpdjaikmdagmaaGreatDoorP22
set_option linter.unusedSimpArgs false
set_option linter.unusedVariables false
set_option linter.unusedSectionVars false
section
/- Tables: what the value at a point is. No conditions. -/
set_option linter.unusedSimpArgs false
set_option linter.unusedSectionVars false
namespace Go.Sx.Tab
open Go.Proofs Go.Sx

theorem bsN_lo {l : List Int} {x : Int} {t : Nat} (h : t < bsN l x) : l.getD t 0 < x := by
  have hl : t < l.length := Nat.lt_of_lt_of_le h (bsN_le l x)
  have := List.not_of_lt_findIdx h
  simp only [List.getD, List.getElem?_eq_getElem hl, Option.getD_some]
  simpa using this
theorem bsN_hi {l : List Int} {x : Int} (h : bsN l x < l.length) : x ≤ l.getD (bsN l x) 0 := by
  have := List.findIdx_getElem (p := fun y => decide (x ≤ y)) (xs := l) (w := h)
  simp only [List.getD, List.getElem?_eq_getElem h, Option.getD_some]
  exact of_decide_eq_true this
theorem cel_in {l : List Int} (h : axB l = true) {x : Int} (h0 : l.getD 0 0 ≤ x) (h1 : x ≤ l.getD (l.length - 1) 0) : inC l (celN l x) x := by
  have hl := axB_len h
  have hc := celN_lt hl.1 x
  have hin := inner_len hl.1
  refine ⟨hc, ?_, ?_⟩
  · by_cases e : celN l x = 0
    · rw [e]; exact h0
    · have := bsN_lo (l := (l.drop 1).take (l.length - 2)) (x := x) (t := celN l x - 1) (by show celN l x - 1 < celN l x; omega)
      rw [inner_getD (by omega), show celN l x - 1 + 1 = celN l x by omega] at this
      omega
  · by_cases e : celN l x < l.length - 2
    · have : x ≤ ((l.drop 1).take (l.length - 2)).getD (celN l x) 0 := bsN_hi (l := (l.drop 1).take (l.length - 2)) (x := x) (by rw [hin]; exact e)
      rw [inner_getD e] at this
      exact this
    · rw [show celN l x + 1 = l.length - 1 by omega]; exact h1
theorem axB_gap {l : List Int} (h : axB l = true) {i : Nat} (hi : i + 1 < l.length) : 1 ≤ l.getD (i + 1) 0 - l.getD i 0 ∧ l.getD (i + 1) 0 - l.getD i 0 ≤ 10000 := by
  simp only [axB, Bool.and_eq_true, List.all_eq_true] at h
  have := h.2 (i + 1) (by simpa using hi)
  simp only [axAt, Bool.and_eq_true, Bool.or_eq_true, decide_eq_true_eq, Nat.add_sub_cancel] at this
  rcases this.2 with h1 | h1
  · omega
  · simpa [withinB] using h1
theorem axB_bd {l : List Int} (h : axB l = true) {i : Nat} (hi : i < l.length) : -1000000 ≤ l.getD i 0 ∧ l.getD i 0 ≤ 1000000 := by
  simp only [axB, Bool.and_eq_true, List.all_eq_true] at h
  have := h.2 i (by simpa using hi)
  simp only [axAt, Bool.and_eq_true, far6, Bool.not_not] at this
  simpa [withinB] using this.1
theorem mulSg {x p A B : Int} (h1 : 0 ≤ x) (h2 : x ≤ A) (h3 : -B ≤ p) (h4 : p ≤ B) : -(A * B) ≤ x * p ∧ x * p ≤ A * B := by
  have hB : 0 ≤ B := by omega
  have a1 : x * p ≤ x * B := Int.mul_le_mul_of_nonneg_left h4 h1
  have a2 : x * -B ≤ x * p := Int.mul_le_mul_of_nonneg_left h3 h1
  have a3 : x * B ≤ A * B := Int.mul_le_mul_of_nonneg_right h2 hB
  rw [Int.mul_neg] at a2
  omega
theorem tv_bd {t : Tb} (h : tbB t = true) {i k : Nat} (hi : i < t.xs.length) (hk : k < t.ys.length) : -1000000 ≤ t.v i k ∧ t.v i k ≤ 1000000 := by
  obtain ⟨r, hr, n, hn, e⟩ := row_at h hi hk
  obtain ⟨_, _, _, h4⟩ := tbB_facts h
  rw [e]
  exact (h4 r (List.mem_iff_getElem?.2 ⟨i, hr⟩)).2 n (List.mem_iff_getElem?.2 ⟨k, hn⟩)
theorem atW_eq {X0 X1 Y0 Y1 p q r s x y : Int} (x0 : X0 ≤ x) (x1 : x ≤ X1) (xg : X1 - X0 ≤ 10000) (y0 : Y0 ≤ y) (y1 : y ≤ Y1) (yg : Y1 - Y0 ≤ 10000)
    (xb : -1000000 ≤ X0 ∧ X1 ≤ 1000000) (yb : -1000000 ≤ Y0 ∧ Y1 ≤ 1000000)
    (hp : -1000000 ≤ p ∧ p ≤ 1000000) (hq : -1000000 ≤ q ∧ q ≤ 1000000) (hr : -1000000 ≤ r ∧ r ≤ 1000000) (hs : -1000000 ≤ s ∧ s ≤ 1000000) :
    atW X0 X1 Y0 Y1 p q r s x y = ((X1 - x) * (Y1 - y) * p + (x - X0) * (Y1 - y) * q + (X1 - x) * (y - Y0) * r + (x - X0) * (y - Y0) * s, (X1 - X0) * (Y1 - Y0)) ∧
    -400000000000000 ≤ (atW X0 X1 Y0 Y1 p q r s x y).1 ∧ (atW X0 X1 Y0 Y1 p q r s x y).1 ≤ 400000000000000 := by
  have m1 := mulBd (x := X1 - x) (y := Y1 - y) (A := 10000) (B := 10000) (by omega) (by omega) (by omega) (by omega)
  have m2 := mulBd (x := x - X0) (y := Y1 - y) (A := 10000) (B := 10000) (by omega) (by omega) (by omega) (by omega)
  have m3 := mulBd (x := X1 - x) (y := y - Y0) (A := 10000) (B := 10000) (by omega) (by omega) (by omega) (by omega)
  have m4 := mulBd (x := x - X0) (y := y - Y0) (A := 10000) (B := 10000) (by omega) (by omega) (by omega) (by omega)
  have m5 := mulBd (x := X1 - X0) (y := Y1 - Y0) (A := 10000) (B := 10000) (by omega) (by omega) (by omega) (by omega)
  have e1 : ws X1 x = X1 - x := wrap_id (by omega) (by omega)
  have e2 : ws x X0 = x - X0 := wrap_id (by omega) (by omega)
  have e3 : ws Y1 y = Y1 - y := wrap_id (by omega) (by omega)
  have e4 : ws y Y0 = y - Y0 := wrap_id (by omega) (by omega)
  have e5 : wa (X1 - x) (x - X0) = X1 - X0 := by unfold wa; rw [wrap_id (by omega) (by omega)]; omega
  have e6 : wa (Y1 - y) (y - Y0) = Y1 - Y0 := by unfold wa; rw [wrap_id (by omega) (by omega)]; omega
  unfold atW
  rw [e1, e2, e3, e4, e5, e6]
  generalize X1 - x = a at *
  generalize x - X0 = b at *
  generalize Y1 - y = c at *
  generalize y - Y0 = d at *
  have f1 : wm a c = a * c := wrap_id (by omega) (by omega)
  have f2 : wm b c = b * c := wrap_id (by omega) (by omega)
  have f3 : wm a d = a * d := wrap_id (by omega) (by omega)
  have f4 : wm b d = b * d := wrap_id (by omega) (by omega)
  have f5 : wm (X1 - X0) (Y1 - Y0) = (X1 - X0) * (Y1 - Y0) := wrap_id (by omega) (by omega)
  rw [f1, f2, f3, f4, f5]
  have n1 := mulSg (x := a * c) (p := p) (A := 100000000) (B := 1000000) (by omega) (by omega) hp.1 hp.2
  have n2 := mulSg (x := b * c) (p := q) (A := 100000000) (B := 1000000) (by omega) (by omega) hq.1 hq.2
  have n3 := mulSg (x := a * d) (p := r) (A := 100000000) (B := 1000000) (by omega) (by omega) hr.1 hr.2
  have n4 := mulSg (x := b * d) (p := s) (A := 100000000) (B := 1000000) (by omega) (by omega) hs.1 hs.2
  generalize a * c = u1 at *
  generalize b * c = u2 at *
  generalize a * d = u3 at *
  generalize b * d = u4 at *
  have g1 : wm u1 p = u1 * p := wrap_id (by omega) (by omega)
  have g2 : wm u2 q = u2 * q := wrap_id (by omega) (by omega)
  have g3 : wm u3 r = u3 * r := wrap_id (by omega) (by omega)
  have g4 : wm u4 s = u4 * s := wrap_id (by omega) (by omega)
  rw [g1, g2, g3, g4]
  generalize u1 * p = v1 at *
  generalize u2 * q = v2 at *
  generalize u3 * r = v3 at *
  generalize u4 * s = v4 at *
  have h1 : wa v1 v2 = v1 + v2 := wrap_id (by omega) (by omega)
  rw [h1]
  have h2 : wa (v1 + v2) v3 = v1 + v2 + v3 := wrap_id (by omega) (by omega)
  rw [h2]
  have h3 : wa (v1 + v2 + v3) v4 = v1 + v2 + v3 + v4 := wrap_id (by omega) (by omega)
  rw [h3]
  exact ⟨rfl, by show _ ≤ v1 + v2 + v3 + v4; omega, by show v1 + v2 + v3 + v4 ≤ _; omega⟩
theorem atV_eq {t : Tb} (h : tbB t = true) {x y : Int} (x0 : t.xs.getD 0 0 ≤ x) (x1 : x ≤ t.xs.getD (t.xs.length - 1) 0) (y0 : t.ys.getD 0 0 ≤ y) (y1 : y ≤ t.ys.getD (t.ys.length - 1) 0) :
    atV t x y = (t.num (celN t.xs x) (celN t.ys y) x y, t.den (celN t.xs x) (celN t.ys y)) ∧ Va (atV t x y) := by
  obtain ⟨hax, hay, _⟩ := tbB_facts h
  obtain ⟨i1, i2, i3⟩ := cel_in hax x0 x1
  obtain ⟨k1, k2, k3⟩ := cel_in hay y0 y1
  have gx := axB_gap hax i1
  have gy := axB_gap hay k1
  have bx0 := axB_bd hax (show celN t.xs x < t.xs.length by omega)
  have bx1 := axB_bd hax i1
  have by0 := axB_bd hay (show celN t.ys y < t.ys.length by omega)
  have by1 := axB_bd hay k1
  have hm := mulBd (x := t.xs.getD (celN t.xs x + 1) 0 - t.xs.getD (celN t.xs x) 0) (y := t.ys.getD (celN t.ys y + 1) 0 - t.ys.getD (celN t.ys y) 0) (A := 10000) (B := 10000) (by omega) (by omega) (by omega) (by omega)
  have hpos : 0 < (t.xs.getD (celN t.xs x + 1) 0 - t.xs.getD (celN t.xs x) 0) * (t.ys.getD (celN t.ys y + 1) 0 - t.ys.getD (celN t.ys y) 0) := Int.mul_pos (by omega) (by omega)
  obtain ⟨e1, e2, e3⟩ := atW_eq i2 i3 gx.2 k2 k3 gy.2 ⟨bx0.1, bx1.2⟩ ⟨by0.1, by1.2⟩ (tv_bd h (show celN t.xs x < t.xs.length by omega) (show celN t.ys y < t.ys.length by omega)) (tv_bd h i1 (show celN t.ys y < t.ys.length by omega)) (tv_bd h (show celN t.xs x < t.xs.length by omega) k1) (tv_bd h i1 k1)
  have hA : atV t x y = _ := e1
  refine ⟨hA, ?_⟩
  have e2' : -400000000000000 ≤ (atV t x y).1 := e2
  have e3' : (atV t x y).1 ≤ 400000000000000 := e3
  refine ⟨by omega, by omega, ?_, ?_⟩
  · rw [hA]; exact hpos
  · rw [hA]; show _ ≤ (100000000 : Int); omega
theorem spN_no {s : Sp} (h : spN s = false) : -1000000 ≤ s.lo ∧ s.lo ≤ s.hi ∧ s.hi ≤ 1000000 := by
  simp only [spN, Bool.not_eq_false', Bool.and_eq_true, decide_eq_true_eq, withinB] at h
  omega
theorem bdErr_ok {d : BdD} (h : bdErr d = 0) : tbB d.t = true ∧ (-1000000 ≤ d.a.lo ∧ d.a.lo ≤ d.a.hi ∧ d.a.hi ≤ 1000000) ∧ (-1000000 ≤ d.b.lo ∧ d.b.lo ≤ d.b.hi ∧ d.b.hi ≤ 1000000) ∧ lies d.t.xs d.a ∧ lies d.t.ys d.b := by
  unfold bdErr at h
  split at h
  · rename_i h1
    split at h
    · simp at h
    · rename_i h2
      split at h
      · rename_i h3
        simp only [List.any_cons, List.any_nil, Bool.or_false, Bool.or_eq_true, not_or, Bool.not_eq_true] at h2
        simp only [Bool.and_eq_true, lieB, decide_eq_true_eq] at h3
        exact ⟨h1, spN_no h2.1, spN_no h2.2, h3.1, h3.2⟩
      · simp at h
  · simp at h
theorem corner_in {d : BdD} (h : bdErr d = 0) {p : Int × Int} (hp : p ∈ cnL d) : d.a.lo ≤ p.1 ∧ p.1 ≤ d.a.hi ∧ d.b.lo ≤ p.2 ∧ p.2 ≤ d.b.hi := by
  obtain ⟨_, ha, hb, _⟩ := bdErr_ok h
  simp only [cnL, pts, List.mem_flatMap, List.mem_map] at hp
  obtain ⟨x, hx, y, hy, rfl⟩ := hp
  have h1 := stops_in ha.2.1 hx
  have h2 := stops_in hb.2.1 hy
  exact ⟨h1.1, h1.2, h2.1, h2.2⟩
theorem exP_of {d : BdD} (h : bdErr d = 0) : ExP d := by
  obtain ⟨ht, _, _, la, lb⟩ := bdErr_ok h
  refine ⟨ht, fun p hp => ?_⟩
  obtain ⟨c1, c2, c3, c4⟩ := corner_in h hp
  have := (atV_eq ht (x := p.1) (y := p.2) (by have := la.1; omega) (by have := la.2; omega) (by have := lb.1; omega) (by have := lb.2; omega)).2
  exact this
theorem exRun_va : ∀ (l : List Pq) (s : ExS), (∀ p ∈ l, Va p.v) → (s.bg = true → Va s.le.v ∧ Va s.mo.v) → (s.bg = true ∨ l ≠ []) → Va (exRun s l).le.v ∧ Va (exRun s l).mo.v
  | [], s, _, hb, h => hb (by rcases h with h | h; exact h; exact absurd rfl h)
  | p :: l, s, h, hb, _ => by
    have hp := h p (by simp)
    refine exRun_va l (s.next p) (fun q hq => h q (by simp [hq])) (fun _ => ?_) (.inl rfl)
    simp only [ExS.next]
    constructor
    · split
      · exact hp
      · rename_i hc; exact (hb (by cases hs : s.bg; exact absurd (.inl hs) hc; rfl)).1
    · split
      · exact hp
      · rename_i hc; exact (hb (by cases hs : s.bg; exact absurd (.inl hs) hc; rfl)).2
theorem cnL_ne (d : BdD) : cnL d ≠ [] := by
  intro h
  have : (d.a.lo, d.b.lo) ∈ cnL d := by
    simp only [cnL, pts, List.mem_flatMap, List.mem_map]
    exact ⟨d.a.lo, by simp [stops], d.b.lo, by simp [stops], rfl⟩
  rw [h] at this
  simp at this
theorem exR_va {d : BdD} (h : bdErr d = 0) : Va (exR d).le.v ∧ Va (exR d).mo.v := by
  have hP := exP_of h
  refine exRun_va _ exS0 (fun p hp => ?_) (fun e => by cases e) (.inr fun e => ?_)
  · obtain ⟨q, hq, rfl⟩ := List.mem_map.1 hp
    exact hP.v q hq
  · exact cnL_ne d (by simpa using e)
/-- What a table has on a box. -/
def boundF (d : BdD) : Sp := ⟨(exR d).le.n / (exR d).le.d, -(-(exR d).mo.n / (exR d).mo.d)⟩
end Go.Sx.Tab
end
section
/- Tables: Bound, and the look at a table. No conditions. -/
set_option linter.unusedSimpArgs false
set_option linter.unusedSectionVars false
set_option maxRecDepth 100000
set_option maxHeartbeats 8000000
namespace Go.Sx.Tab
open Go.Proofs Go.Sx
attribute [local irreducible] HLe

noncomputable abbrev bouS : PSpec := mkP bdE (fun d => TbP d.t) fun d => .tup [if bdErr d = 0 then .agg (boundF d).row else .agg [.int .i64 0, .int .i64 0], .int .i64 (bdErr d)]
noncomputable abbrev E15 : Env := { P := Tryz.prog, fn := tbl [(41, .pure ckpS), (42, .pure extS), (43, .pure floS), (44, .pure upS)], own := [], key := 1500, nt := 37 }
theorem b15 : PureBody E15 [] Tryz.f15 bouS := by
  refine pb ?_
  rintro d hP
  have hP : TbP d.t := hP
  by_cases h0 : bdErr d = 0
  case neg =>
    obtain ⟨t, a, b⟩ := d
    simp -dsimp [Tryz.f15, E15, tabR, Sp.row]
    repeat' (first | omega | (simp -dsimp [E15, ri, cellp, ints, hP, bdE_dec, h0, tabR, Sp.row]) | (refine Also.intro ?_ fun _ => ?_) | (refine Hold.intro fun _ => ?_) | (refine And.intro ?_ ?_))
  have hX := exP_of h0
  obtain ⟨v1, v2⟩ := exR_va h0
  have f1 : FlP ((exR d).le.n, (exR d).le.d) := v1.fl
  have f2 : FlP ((exR d).mo.n, (exR d).mo.d) := v2.fl
  have hB1 : (boundF d).lo = (exR d).le.n / (exR d).le.d := rfl
  have hB2 : (boundF d).hi = -(-(exR d).mo.n / (exR d).mo.d) := rfl
  obtain ⟨t, a, b⟩ := d
  simp -dsimp [Tryz.f15, E15, tabR, Sp.row]
  repeat' (first | omega | (simp -dsimp [E15, ri, cellp, ints, hP, bdE_dec, h0, hX, tabR, Sp.row, Pq.row, f1, f2, i2E_dec, vaE_dec, hB1, hB2]) | (refine Also.intro ?_ fun _ => ?_) | (refine Hold.intro fun _ => ?_) | (refine And.intro ?_ ?_))
theorem ok15 : FnOK Tryz.prog 15 (.pure bouS) := pure_fn (E := E15) rfl (.cons ok41 (.cons ok42 (.cons ok43 (.cons ok44 .nil)))) (ok := []) (fn := Tryz.f15) (by kernel_rfl) (by kernel_rfl) (by kernel_rfl) (by kernel_rfl) rfl (fun _ _ => by simp) b15
def mzT : Tb := ⟨[0, 10, 20], [0, 5], [[0, 10], [20, 30], [10, 50]]⟩
def mzD : BdD := ⟨mzT, ⟨5, 15⟩, ⟨0, 5⟩⟩
theorem mz_err : bdErr mzD = 0 := by decide +kernel
theorem mz_bound : boundF mzD = ⟨10, 40⟩ := by
  have h1 : (boundF mzD).lo = 10 := by decide +kernel
  have h2 : (boundF mzD).hi = 40 := by decide +kernel
  cases h : boundF mzD
  rw [h] at h1 h2
  simp only at h1 h2
  rw [h1, h2]
theorem mz_dec : decC bdE [.agg [.sl 1 [[.int .i64 0], [.int .i64 10], [.int .i64 20]], .sl 1 [[.int .i64 0], [.int .i64 5]], .sl 1 [[.sl 1 [[.int .i64 0], [.int .i64 10]]], [.sl 1 [[.int .i64 20], [.int .i64 30]]], [.sl 1 [[.int .i64 10], [.int .i64 50]]]]], .agg [.int .i64 5, .int .i64 15], .agg [.int .i64 0, .int .i64 5]] = mzD := decC_eq bdE_inj mzD
noncomputable abbrev mesS : PSpec := mkP (D := Unit) (fun _ => []) (fun _ => True) fun _ => .bool true
noncomputable abbrev E5 : Env := { P := Tryz.prog, fn := tbl [(15, .pure bouS)], own := [], key := 500, nt := 25 }
theorem b5 : PureBody E5 [] Tryz.f5 mesS := by
  refine pb ?_
  rintro ⟨⟩ _
  have hP : TbP mzD.t := ⟨by decide, by decide, by decide⟩
  have h1 := mz_err
  have h2 : (boundF mzD).row = [.int .i64 10, .int .i64 40] := by rw [mz_bound]; rfl
  have hd := mz_dec
  have hE : bdE mzD = [.agg [.sl 1 [[.int .i64 0], [.int .i64 10], [.int .i64 20]], .sl 1 [[.int .i64 0], [.int .i64 5]], .sl 1 [[.sl 1 [[.int .i64 0], [.int .i64 10]]], [.sl 1 [[.int .i64 20], [.int .i64 30]]], [.sl 1 [[.int .i64 10], [.int .i64 50]]]]], .agg [.int .i64 5, .int .i64 15], .agg [.int .i64 0, .int .i64 5]] := rfl
  have e1 : mzD.t.xs = [0, 10, 20] := rfl
  have e2 : mzD.t.ys = [0, 5] := rfl
  have e3 : mzD.t.vs = [[0, 10], [20, 30], [10, 50]] := rfl
  have e4 : mzD.a.lo = 5 := rfl
  have e5 : mzD.a.hi = 15 := rfl
  have e6 : mzD.b.lo = 0 := rfl
  have e7 : mzD.b.hi = 5 := rfl
  have e8 : (boundF mzD).lo = 10 := by rw [mz_bound]
  have e9 : (boundF mzD).hi = 40 := by rw [mz_bound]
  generalize mzD = D at *
  simp -dsimp [Tryz.f5, E5]
  repeat' (first | omega | (simp -dsimp [E5, ri, cellp, ints, hd, hP, h1, e1, e2, e3, e4, e5, e6, e7, e8, e9, ri, rwI, ints, Sp.row]) | (refine Also.intro ?_ fun _ => ?_) | (refine Hold.intro fun _ => ?_) | (refine And.intro ?_ ?_))
theorem ok5 : FnOK Tryz.prog 5 (.pure mesS) := pure_fn (E := E5) rfl (.cons ok15 .nil) (ok := []) (fn := Tryz.f5) (by kernel_rfl) (by kernel_rfl) (by kernel_rfl) (by kernel_rfl) rfl (fun _ _ => by simp) b5
end Go.Sx.Tab
end
section
/- TopWorn: the walk. No conditions. -/
set_option linter.unusedSimpArgs false
set_option linter.unusedSectionVars false
set_option maxRecDepth 100000
set_option maxHeartbeats 80000000
namespace Go.Sx
open Go.Proofs
attribute [local irreducible] HLe
attribute [local simp] hps_app

theorem accH_bd {X : List Stt} (hX : ∀ (j : Nat) (x : Stt), X[j]? = some x → (0 ≤ x.hours ∧ x.hours ≤ 20000) ∧ 0 ≤ x.cycles ∧ x.cycles ≤ 20000) : ∀ j, j ≤ X.length → (0 ≤ (accH X j).1 ∧ (accH X j).1 ≤ 20000 * j) ∧ 0 ≤ (accH X j).2 ∧ (accH X j).2 ≤ 20000 * j
  | 0, _ => by simp [accH]
  | j + 1, h => by
    have ih := accH_bd hX j (by omega)
    have hj : j < X.length := by omega
    have e : X[j]? = some (X.getD j default) := by simp [List.getD, hj]
    have := hX j _ e
    simp only [accH]
    omega
theorem chR_len (b n : List (List Int)) (p : Int) : (Ch.chR b n p).1.length ≤ 9223372036854775807 := by
  unfold Ch.chR
  split
  · rename_i h
    simp only [Bool.and_eq_true] at h
    obtain ⟨_, f2, f3⟩ := Ch.tab_facts h.1.1.1
    split
    · have := Ch.chTo_len (b := b) (n := n) (p := p) (fun r hr => (f3 r hr).2.2.1) b.length (Nat.le_refl _)
      show (Ch.chTo b n p b.length).length ≤ _
      omega
    · exact Nat.zero_le _
  · exact Nat.zero_le _
structure TwD where
  r : Reg
  l : List Wk
  b : List (List Int)
  n : List (List Int)
  p : Int
  m : Int
  pl : List (Int × Int)
  deriving Inhabited
@[simp] def twE (d : TwD) : List V := [.agg [.sl 3 (d.r.kinds.map Kd.row), .sl 4 (d.r.parts.map Pt.row), .int .i64 d.r.machines, .sl 2 (d.r.orders.map Od.row), .sl 4 (d.l.map Wk.row)], .agg [.sl 1 (d.b.map rl), .sl 1 (d.n.map rl), .int .i64 d.p], .agg [.int .i64 d.m, .sl 2 (d.pl.map cycV)]]
structure TwP (d : TwD) : Prop where
  f : RL.Fine ⟨d.r, d.l⟩
  b : Ch.tabPre d.b
  n : Ch.tabPre d.n
  p : d.pl.length ≤ 9223372036854775807
noncomputable abbrev lawTwS : PSpec := mkP twE TwP fun _ => .bool true
noncomputable abbrev E3 : Env := { P := Tryz.prog, fn := tbl [(5, .pure Tab.mesS), (6, .pure Ch.chS), (7, .pure suS), (8, .pure whereS), (9, .pure usedS), (10, .pure hstS)], own := [], key := 300, nt := 318 }
theorem b3 : PureBody E3 [] Tryz.f3 lawTwS := by
  refine pb ?_
  rintro ⟨r, l, b, n, p, m, pl⟩ ⟨hf, hb, hn, hpl⟩
  simp only at hf hb hn hpl
  by_cases k1 : (100 : Int) < l.length
  · simp -dsimp [Tryz.f3, E3, Reg.row, tabV]
    repeat' (first | omega | (simp -dsimp [E3, ri, cellp, ints, Reg.row, tabV, k1]) | (refine Also.intro ?_ fun _ => ?_) | (refine Hold.intro fun _ => ?_) | (refine And.intro ?_ ?_))
  by_cases k2 : (12 : Int) < r.kinds.length
  · simp -dsimp [Tryz.f3, E3, Reg.row, tabV]
    repeat' (first | omega | (simp -dsimp [E3, ri, cellp, ints, Reg.row, tabV, k1, k2]) | (refine Also.intro ?_ fun _ => ?_) | (refine Hold.intro fun _ => ?_) | (refine And.intro ?_ ?_))
  by_cases k3 : (40 : Int) < r.parts.length
  · simp -dsimp [Tryz.f3, E3, Reg.row, tabV]
    repeat' (first | omega | (simp -dsimp [E3, ri, cellp, ints, Reg.row, tabV, k1, k2, k3]) | (refine Also.intro ?_ fun _ => ?_) | (refine Hold.intro fun _ => ?_) | (refine And.intro ?_ ?_))
  by_cases k4 : (12 : Int) < r.orders.length
  · simp -dsimp [Tryz.f3, E3, Reg.row, tabV]
    repeat' (first | omega | (simp -dsimp [E3, ri, cellp, ints, Reg.row, tabV, k1, k2, k3, k4]) | (refine Also.intro ?_ fun _ => ?_) | (refine Hold.intro fun _ => ?_) | (refine And.intro ?_ ?_))
  by_cases k5 : (12 : Int) < b.length
  · simp -dsimp [Tryz.f3, E3, Reg.row, tabV]
    repeat' (first | omega | (simp -dsimp [E3, ri, cellp, ints, Reg.row, tabV, k1, k2, k3, k4, k5]) | (refine Also.intro ?_ fun _ => ?_) | (refine Hold.intro fun _ => ?_) | (refine And.intro ?_ ?_))
  by_cases k6 : (12 : Int) < n.length
  · simp -dsimp [Tryz.f3, E3, Reg.row, tabV]
    repeat' (first | omega | (simp -dsimp [E3, ri, cellp, ints, Reg.row, tabV, k1, k2, k3, k4, k5, k6]) | (refine Also.intro ?_ fun _ => ?_) | (refine Hold.intro fun _ => ?_) | (refine And.intro ?_ ?_))
  by_cases k7 : (20 : Int) < pl.length
  · simp -dsimp [Tryz.f3, E3, Reg.row, tabV]
    repeat' (first | omega | (simp -dsimp [E3, ri, cellp, ints, Reg.row, tabV, k1, k2, k3, k4, k5, k6, k7]) | (refine Also.intro ?_ fun _ => ?_) | (refine Hold.intro fun _ => ?_) | (refine And.intro ?_ ?_))
  simp -dsimp [Tryz.f3, E3, Reg.row, tabV]
  repeat' (first | omega | (simp -dsimp [E3, ri, cellp, ints, Reg.row, tabV, k1, k2, k3, k4, k5, k6, k7]) | (refine Also.intro ?_ fun _ => ?_) | (refine Hold.intro fun _ => ?_) | (refine And.intro ?_ ?_))
  refine awp_loop [68, 69, 70, 71, 72, 75, 76, 77, 78, 79, 80, 81, 82, 6, 73, 74, 7] (fun k : Fin (b.length + 1) => [(7, (true, .int .i64 (k.1 : Nat)))])
    (fun _ => hps [(303, { base := 0, blks := [{ z := 5, els := [[.sl 3 (r.kinds.map Kd.row), .sl 4 (r.parts.map Pt.row), .int .i64 r.machines, .sl 2 (r.orders.map Od.row), .sl 4 (l.map Wk.row)]], ty := 29 }] }), (304, { base := 0, blks := [{ z := 3, els := [[.sl 1 (b.map rl), .sl 1 (n.map rl), .int .i64 p]], ty := 32 }] }), (305, { base := 0, blks := [{ z := 2, els := [[.int .i64 m, .sl 2 (pl.map cycV)]], ty := 35 }] })] noH) (fun k => b.length - k.1) ⟨0, by omega⟩ ?_ ?_ ?_
  · simp [okAll, okv]
  · exact (by (try simp -dsimp only [hpush_noH, hpush_hps, hps_over]); refine hle_hps ?_; simp -dsimp [allK, ]; repeat' (first | (refine And.intro ?_ ?_) | (refine sLe.same ?_ ?_ <;> (simp; done)) | (refine sLe.clear ?_ ?_ <;> (first | (simp; done) | (simp; omega))) | (refine sLe.drop 1 ?_ ?_ ?_ <;> (simp; done))))
  rintro ⟨k, hk⟩
  simp only
  by_cases hk1 : k < b.length
  · have hki : (k : Int) < b.length := by omega
    have wk : IntKind.wrap .i64 ((k : Int) + 1) = (k + 1 : Nat) := wrap_id (by omega) (by omega)
    obtain ⟨x, hx, hx'⟩ := get_ex hk1
    by_cases hxl : (20 : Int) < x.length
    · simp -dsimp [hki]
      repeat' (first | omega | (simp -dsimp [E3, ri, cellp, ints, hki, hk1, hx, hx', hxl, rl, wk]) | (refine Also.intro ?_ fun _ => ?_) | (refine Hold.intro fun _ => ?_) | (refine And.intro ?_ ?_))
    · simp -dsimp [hki]
      repeat' (first | omega | (simp -dsimp [E3, ri, cellp, ints, hki, hk1, hx, hx', hxl, rl, wk]) | (refine Also.intro ?_ fun _ => ?_) | (refine Hold.intro fun _ => ?_) | (refine And.intro ?_ ?_))
      refine ⟨⟨k + 1, by omega⟩, tle_chain rfl ?_, (by (try simp -dsimp only [hpush_noH, hpush_hps, hps_over]); refine hle_hps ?_; simp -dsimp [allK, ]; repeat' (first | (refine And.intro ?_ ?_) | (refine sLe.same ?_ ?_ <;> (simp; done)) | (refine sLe.clear ?_ ?_ <;> (first | (simp; done) | (simp; omega))) | (refine sLe.drop 1 ?_ ?_ ?_ <;> (simp; done)))), by simp only; omega⟩
      simp [okAll, okv]
  have hkn : ¬ (k : Int) < b.length := by omega
  have hke : k = b.length := by omega
  subst hke
  simp -dsimp [hkn]
  by_cases q1 : (Ch.chR b n p).2 = 0
  case neg =>
    repeat' (first | omega | (simp -dsimp [E3, ri, cellp, ints, hkn, tabV, hb, hn, q1]) | (refine Also.intro ?_ fun _ => ?_) | (refine Hold.intro fun _ => ?_) | (refine And.intro ?_ ?_))
  have hCl := chR_len b n p
  generalize hC : (Ch.chR b n p).1 = C at *
  by_cases q2 : (C.length : Int) < 2
  · repeat' (first | omega | (simp -dsimp [E3, ri, cellp, ints, hkn, tabV, hb, hn, q1, q2, hC]) | (refine Also.intro ?_ fun _ => ?_) | (refine Hold.intro fun _ => ?_) | (refine And.intro ?_ ?_))
  by_cases q3 : True
  case neg => exact absurd trivial q3
  have hC2 : 2 ≤ C.length := by omega
  have hC0 : 0 < C.length := by omega
  have hCne : ¬ C = [] := by rintro rfl; simp at hC0
  have hCi : (0 : Int) < C.length := by omega
  obtain ⟨⟨ca, cg⟩, hc0, hc0'⟩ := get_ex hC0
  repeat' (first | omega | (simp -dsimp [E3, ri, cellp, ints, hkn, tabV, hb, hn, q1, q2, hC]) | (refine Also.intro ?_ fun _ => ?_) | (refine Hold.intro fun _ => ?_) | (refine And.intro ?_ ?_))
  refine awp_loop [101, 102, 103, 104, 107, 108, 109, 110, 111, 112, 113, 114, 115, 116, 117, 6, 105, 106, 10] (fun k : { k : Nat // k ≤ C.length ∧ ∀ j (h : j < C.length), j < k → C[j].2 = cg } => [(10, (true, .int .i64 (k.1 : Nat)))])
    (fun _ => hps [(303, { base := 0, blks := [{ z := 5, els := [[.sl 3 (r.kinds.map Kd.row), .sl 4 (r.parts.map Pt.row), .int .i64 r.machines, .sl 2 (r.orders.map Od.row), .sl 4 (l.map Wk.row)]], ty := 29 }] }), (304, { base := 0, blks := [{ z := 3, els := [[.sl 1 (b.map rl), .sl 1 (n.map rl), .int .i64 p]], ty := 32 }] }), (305, { base := 0, blks := [{ z := 2, els := [[.int .i64 m, .sl 2 (pl.map cycV)]], ty := 35 }] })] noH) (fun k => C.length - k.1) ⟨0, by omega, fun _ _ h => by omega⟩ ?_ ?_ ?_
  · simp [okAll, okv]
  · exact (by (try simp -dsimp only [hpush_noH, hpush_hps, hps_over]); refine hle_hps ?_; simp -dsimp [allK, ]; repeat' (first | (refine And.intro ?_ ?_) | (refine sLe.same ?_ ?_ <;> (simp; done)) | (refine sLe.clear ?_ ?_ <;> (first | (simp; done) | (simp; omega))) | (refine sLe.drop 1 ?_ ?_ ?_ <;> (simp; done))))
  rintro ⟨k, hk, hall⟩
  simp only
  by_cases hk1 : k < C.length
  · have hki : (k : Int) < C.length := by omega
    have wk : IntKind.wrap .i64 ((k : Int) + 1) = (k + 1 : Nat) := wrap_id (by omega) (by omega)
    obtain ⟨⟨xa, xg⟩, hx, hx'⟩ := get_ex hk1
    by_cases hxl : xg = cg
    · simp -dsimp [hki]
      repeat' (first | omega | (simp -dsimp [E3, ri, cellp, ints, hki, hk1, hx, hx', hxl, hC0, hCi, hCne, hc0, hc0', cycV, wk]) | (refine Also.intro ?_ fun _ => ?_) | (refine Hold.intro fun _ => ?_) | (refine And.intro ?_ ?_))
      refine ⟨k + 1, tle_chain rfl ?_, (by (try simp -dsimp only [hpush_noH, hpush_hps, hps_over]); refine hle_hps ?_; simp -dsimp [allK, ]; repeat' (first | (refine And.intro ?_ ?_) | (refine sLe.same ?_ ?_ <;> (simp; done)) | (refine sLe.clear ?_ ?_ <;> (first | (simp; done) | (simp; omega))) | (refine sLe.drop 1 ?_ ?_ ?_ <;> (simp; done)))), ⟨by omega, fun j h hj => ?_⟩, by omega⟩
      · simp [okAll, okv]
      · by_cases e : j = k
        · subst e; rw [hx']; exact hxl
        · exact hall j h (by omega)
    · simp -dsimp [hki]
      repeat' (first | omega | (simp -dsimp [E3, ri, cellp, ints, hki, hk1, hx, hx', hxl, hC0, hCi, hCne, hc0, hc0', cycV, wk]) | (refine Also.intro ?_ fun _ => ?_) | (refine Hold.intro fun _ => ?_) | (refine And.intro ?_ ?_))
  have hkn : ¬ (k : Int) < C.length := by omega
  have hke : k = C.length := by omega
  subst hke
  have hcx : ∀ x ∈ C, x.2 = cg := by
    intro x hx
    obtain ⟨i, hi, rfl⟩ := List.getElem_of_mem hx
    exact hall i hi hi
  have hsu : SuP ⟨r, l, m, pl, C⟩ := ⟨hf, hpl, hCl⟩
  simp -dsimp [hkn]
  by_cases e1 : suEr r l m pl C = 0
  case neg =>
    repeat' (first | omega | (simp -dsimp [E3, ri, cellp, ints, hkn, hC0, hCi, hCne, hc0, hc0', cycV, suE_dec', hsu, e1]) | (refine Also.intro ?_ fun _ => ?_) | (refine Hold.intro fun _ => ?_) | (refine And.intro ?_ ?_))
  obtain ⟨g0, g1, m0, hR⟩ := sus_is e1 (by omega) hcx
  have hE := (suEr_inv e1).1
  obtain ⟨g, rfl⟩ := Int.eq_ofNat_of_zero_le g0
  have hg1 : g < pl.length := by omega
  have hgn : ¬ (g : Int) < 0 := by omega
  have hgl : ¬ (pl.length : Int) ≤ g := by omega
  obtain ⟨⟨ga, gb⟩, hgq, hgq'⟩ := get_ex hg1
  have hgD : pl.getD (Int.toNat (g : Int)) (0, 0) = (ga, gb) := by simp [List.getD, hgq]
  rw [hgD] at hR
  have hIv := (opE_inv hE).2.2.2
  obtain ⟨v1, v2, v3, v4, v5, v6, v7, v8⟩ := valid_facts hIv.val
  have hl2 : l.length ≤ 200 := (opE_inv hE).2.1
  have hpsl : (opH r l).ps.length = r.parts.length := hIv.psl
  have hUl : (eaR r l true).length = r.parts.length := by simp [eaR, hE, hpsl]
  have hWl : (eaR r l false).length = r.parts.length := by simp [eaR, hE, hpsl]
  have hUg : ∀ p (hp : p < r.parts.length), (eaR r l true)[p]? = some ((r.parts.getD p default).hours + (accH (refH l p l.length) (refH l p l.length).length).1, (r.parts.getD p default).cycles + (accH (refH l p l.length) (refH l p l.length).length).2) := by
    intro p hp
    obtain ⟨e1, e2⟩ := acc_used hE hp
    have hq : (opH r l).ps[p]? = some ((opH r l).ps.getD p default) := by simp [List.getD, hpsl, hp]
    simp only [eaR, hE, if_true, List.getElem?_map, hq, Option.map_some, eaP, e1, e2]
  have hhst : ∀ p : Nat, p < r.parts.length → hstF r l p = refH l p l.length ∧ hstE r l p = 0 := by
    intro p hp
    have : RS.partA r p = true := by
      have hw : wsub (r.parts.length : Int) 1 = r.parts.length - 1 := wrap_id (by omega) (by omega)
      simp only [RS.partA, hw, withinB, decide_eq_true_eq]; omega
    simp [hstF, hstE, hE, this]
  have hlast : ∀ p, p < r.parts.length → isAt r (eaR r l false) m (ga, gb) p = true → ∃ k x, (refH l p l.length).length = k + 1 ∧ (refH l p l.length)[k]? = some x ∧ x.machine = m ∧ x.to = l.length := fun p hp ha => last_is hE hp m0 ha
  generalize hWW : eaR r l false = W at *
  generalize hUU : eaR r l true = U at *
  have hRl : ¬ (1 : Int) < (suRe r l m pl C).length := by rw [hR]; split <;> simp
  generalize hRR : suRe r l m pl C = R at *
  repeat' (first | omega | (simp -dsimp [E3, ri, cellp, ints, hkn, hC0, hCi, hCne, hc0, hc0', cycV, suE_dec', rlE_dec', hf, hsu, e1, hE, hRR, hWW, hUU, hWl, hUl, hgn, hgl, hRl, prs]) | (refine Also.intro ?_ fun _ => ?_) | (refine Hold.intro fun _ => ?_) | (refine And.intro ?_ ?_))
  refine awp_loop [192, 193, 194, 195, 198, 199, 200, 201, 202, 203, 204, 205, 206, 207, 208, 209, 210, 211, 212, 213, 214, 215, 216, 217, 218, 219, 220, 221, 222, 223, 224, 225, 226, 227, 228, 18, 196, 197, 19] (fun k : Fin (r.parts.length + 1) => [(19, (true, .int .i64 (k.1 : Nat))), (18, (true, .int .i64 (isTo r W m (ga, gb) k.1)))])
    (fun _ => hps [(303, { base := 0, blks := [{ z := 5, els := [[.sl 3 (r.kinds.map Kd.row), .sl 4 (r.parts.map Pt.row), .int .i64 r.machines, .sl 2 (r.orders.map Od.row), .sl 4 (l.map Wk.row)]], ty := 29 }] }), (304, { base := 0, blks := [{ z := 3, els := [[.sl 1 (b.map rl), .sl 1 (n.map rl), .int .i64 p]], ty := 32 }] }), (305, { base := 0, blks := [{ z := 2, els := [[.int .i64 m, .sl 2 (pl.map cycV)]], ty := 35 }] })] noH) (fun k => r.parts.length - k.1) ⟨0, by omega⟩ ?_ ?_ ?_
  · simp [okAll, okv, isTo]
  · exact (by (try simp -dsimp only [hpush_noH, hpush_hps, hps_over]); refine hle_hps ?_; simp -dsimp [allK, ]; repeat' (first | (refine And.intro ?_ ?_) | (refine sLe.same ?_ ?_ <;> (simp; done)) | (refine sLe.clear ?_ ?_ <;> (first | (simp; done) | (simp; omega))) | (refine sLe.drop 1 ?_ ?_ ?_ <;> (simp; done))))
  rintro ⟨k, hk⟩
  simp only
  by_cases hk1 : k < r.parts.length
  · have hki : (k : Int) < r.parts.length := by omega
    have wk : IntKind.wrap .i64 ((k : Int) + 1) = (k + 1 : Nat) := wrap_id (by omega) (by omega)
    have hkW : k < W.length := by omega
    obtain ⟨⟨wa, wb⟩, hw, hw'⟩ := get_ex hkW
    obtain ⟨⟨ka, kb, kc, kd⟩, hpt, hpt'⟩ := get_ex hk1
    have hJ : IntKind.wrap .i64 (isTo r W m (ga, gb) k) = isTo r W m (ga, gb) k := by
      rcases isTo_lt (r := r) (W := W) (m := m) (q := (ga, gb)) k with e | ⟨i, hi, e, _⟩
      · rw [e]; exact wrap_id (by omega) (by omega)
      · rw [e]; exact wrap_id (by omega) (by omega)
    have hA : isAt r W m (ga, gb) k = ((wa == m && wb == gb) && ka == ga) := by
      simp [isAt, List.getD, hw, hpt]
      rfl
    by_cases c1 : wa = m
    case neg =>
      have hn1 : isTo r W m (ga, gb) (k + 1) = isTo r W m (ga, gb) k := by simp [isTo, hA, c1]
      simp -dsimp [hki, hWl]
      repeat' (first | omega | (simp -dsimp [E3, ri, cellp, ints, hki, hk1, hkW, hWl, hw, hw', hpt, hpt', Pt.row, cycV, hgn, hgl, hg1, hgq, hgq', c1, wk]) | (refine Also.intro ?_ fun _ => ?_) | (refine Hold.intro fun _ => ?_) | (refine And.intro ?_ ?_))
      refine ⟨⟨k + 1, by omega⟩, tle_chain rfl ?_, (by (try simp -dsimp only [hpush_noH, hpush_hps, hps_over]); refine hle_hps ?_; simp -dsimp [allK, ]; repeat' (first | (refine And.intro ?_ ?_) | (refine sLe.same ?_ ?_ <;> (simp; done)) | (refine sLe.clear ?_ ?_ <;> (first | (simp; done) | (simp; omega))) | (refine sLe.drop 1 ?_ ?_ ?_ <;> (simp; done)))), by simp only; omega⟩
      simp [okAll, okv, hn1, hJ]
    by_cases c2 : wb = gb
    case neg =>
      have hn1 : isTo r W m (ga, gb) (k + 1) = isTo r W m (ga, gb) k := by simp [isTo, hA, c1, c2]
      simp -dsimp [hki, hWl]
      repeat' (first | omega | (simp -dsimp [E3, ri, cellp, ints, hki, hk1, hkW, hWl, hw, hw', hpt, hpt', Pt.row, cycV, hgn, hgl, hg1, hgq, hgq', c1, c2, wk]) | (refine Also.intro ?_ fun _ => ?_) | (refine Hold.intro fun _ => ?_) | (refine And.intro ?_ ?_))
      refine ⟨⟨k + 1, by omega⟩, tle_chain rfl ?_, (by (try simp -dsimp only [hpush_noH, hpush_hps, hps_over]); refine hle_hps ?_; simp -dsimp [allK, ]; repeat' (first | (refine And.intro ?_ ?_) | (refine sLe.same ?_ ?_ <;> (simp; done)) | (refine sLe.clear ?_ ?_ <;> (first | (simp; done) | (simp; omega))) | (refine sLe.drop 1 ?_ ?_ ?_ <;> (simp; done)))), by simp only; omega⟩
      simp [okAll, okv, hn1, hJ]
    by_cases c3 : ka = ga
    case neg =>
      have hn1 : isTo r W m (ga, gb) (k + 1) = isTo r W m (ga, gb) k := by simp [isTo, hA, c1, c2, c3]
      simp -dsimp [hki, hWl]
      repeat' (first | omega | (simp -dsimp [E3, ri, cellp, ints, hki, hk1, hkW, hWl, hw, hw', hpt, hpt', Pt.row, cycV, hgn, hgl, hg1, hgq, hgq', c1, c2, c3, wk]) | (refine Also.intro ?_ fun _ => ?_) | (refine Hold.intro fun _ => ?_) | (refine And.intro ?_ ?_))
      refine ⟨⟨k + 1, by omega⟩, tle_chain rfl ?_, (by (try simp -dsimp only [hpush_noH, hpush_hps, hps_over]); refine hle_hps ?_; simp -dsimp [allK, ]; repeat' (first | (refine And.intro ?_ ?_) | (refine sLe.same ?_ ?_ <;> (simp; done)) | (refine sLe.clear ?_ ?_ <;> (first | (simp; done) | (simp; omega))) | (refine sLe.drop 1 ?_ ?_ ?_ <;> (simp; done)))), by simp only; omega⟩
      simp [okAll, okv, hn1, hJ]
    have hn1 : isTo r W m (ga, gb) (k + 1) = (k : Nat) := by simp [isTo, hA, c1, c2, c3]
    simp -dsimp [hki, hWl]
    repeat' (first | omega | (simp -dsimp [E3, ri, cellp, ints, hki, hk1, hkW, hWl, hw, hw', hpt, hpt', Pt.row, cycV, hgn, hgl, hg1, hgq, hgq', c1, c2, c3, wk]) | (refine Also.intro ?_ fun _ => ?_) | (refine Hold.intro fun _ => ?_) | (refine And.intro ?_ ?_))
    refine ⟨⟨k + 1, by omega⟩, tle_chain rfl ?_, (by (try simp -dsimp only [hpush_noH, hpush_hps, hps_over]); refine hle_hps ?_; simp -dsimp [allK, ]; repeat' (first | (refine And.intro ?_ ?_) | (refine sLe.same ?_ ?_ <;> (simp; done)) | (refine sLe.clear ?_ ?_ <;> (first | (simp; done) | (simp; omega))) | (refine sLe.drop 1 ?_ ?_ ?_ <;> (simp; done)))), by simp only; omega⟩
    simp [okAll, okv, hn1]
  have hkn2 : ¬ (k : Int) < r.parts.length := by omega
  have hke2 : k = r.parts.length := by omega
  subst hke2
  rcases isTo_lt (r := r) (W := W) (m := m) (q := (ga, gb)) r.parts.length with hI | ⟨s, hs, hI, hA⟩
  · rw [hI] at hR ⊢
    obtain rfl : R = [] := by rw [hR]; simp
    simp -dsimp [hkn2, hWl]
    repeat' (first | omega | (simp -dsimp [E3, ri, cellp, ints, hkn2, hWl]) | (refine Also.intro ?_ fun _ => ?_) | (refine Hold.intro fun _ => ?_) | (refine And.intro ?_ ?_))
  · rw [hI] at hR ⊢
    have hsn : ¬ (s : Int) < 0 := by omega
    obtain rfl : R = [(s : Int)] := by rw [hR]; simp [hsn]
    obtain ⟨hh1, hh2⟩ := hhst s hs
    have hfn2 : RLN.Fine ⟨r, l, s⟩ := hf
    obtain ⟨kk, z, z1, z2, z3, z4⟩ := hlast s hs hA
    obtain ⟨pt, hpt, hpt'⟩ := get_ex hs
    have hgp : r.parts.getD s default = pt := by simp [List.getD, hpt]
    have hptb := v7 pt (hpt' ▸ List.getElem_mem hs)
    have hug := hUg s hs
    rw [hgp] at hug
    have huU : s < U.length := by omega
    have hug' : U[s] = _ := (List.getElem?_eq_some_iff.1 hug).2
    have hX : ∀ (j : Nat) (x : Stt), (refH l s l.length)[j]? = some x → SttP (refH l s l.length) l.length j x := fun j x hx => refH_sttP hE hs hx
    have hXl := refH_len l s l.length
    have hac := accH_bd (X := refH l s l.length) (fun j x hx => ⟨⟨(hX j x hx).h0, (hX j x hx).h1⟩, (hX j x hx).c0, (hX j x hx).c1⟩)
    generalize hXX : refH l s l.length = X at *
    have hX0 : ¬ (X.length : Int) = 0 := by omega
    have hXne : ¬ X = [] := by rintro rfl; simp at z1
    have hw1 : IntKind.wrap .i64 ((X.length : Int) - 1) = (kk : Nat) := by rw [wrap_id (by omega) (by omega)]; omega
    have hw2 : IntKind.wrap .i64 (kk : Int) = (kk : Nat) := wrap_id (by omega) (by omega)
    have hkX : kk < X.length := by omega
    have z2' : X[kk] = z := (List.getElem?_eq_some_iff.1 z2).2
    simp -dsimp [hkn2, hWl]
    repeat' (first | omega | (simp -dsimp [E3, ri, cellp, ints, hkn2, hWl, hsn, rnE_dec', hfn2, hh1, hh2, hX0, hXne, hw1, hw2, hkX, z2, z2', z3, z4, Stt.row, Pt.row, hs, hpt, hpt']) | (refine Also.intro ?_ fun _ => ?_) | (refine Hold.intro fun _ => ?_) | (refine And.intro ?_ ?_))
    refine awp_loop [295, 296, 297, 298, 301, 302, 303, 304, 305, 306, 307, 22, 299, 300, 23] (fun j : Fin (X.length + 1) => [(23, (true, .int .i64 (j.1 : Nat))), (22, (true, .int .i64 (pt.hours + (accH X j.1).1)))])
      (fun _ => hps [(303, { base := 0, blks := [{ z := 5, els := [[.sl 3 (r.kinds.map Kd.row), .sl 4 (r.parts.map Pt.row), .int .i64 r.machines, .sl 2 (r.orders.map Od.row), .sl 4 (l.map Wk.row)]], ty := 29 }] }), (304, { base := 0, blks := [{ z := 3, els := [[.sl 1 (b.map rl), .sl 1 (n.map rl), .int .i64 p]], ty := 32 }] }), (305, { base := 0, blks := [{ z := 2, els := [[.int .i64 m, .sl 2 (pl.map cycV)]], ty := 35 }] })] noH) (fun j => X.length - j.1) ⟨0, by omega⟩ ?_ ?_ ?_
    · simp [okAll, okv, accH]
    · exact (by (try simp -dsimp only [hpush_noH, hpush_hps, hps_over]); refine hle_hps ?_; simp -dsimp [allK, ]; repeat' (first | (refine And.intro ?_ ?_) | (refine sLe.same ?_ ?_ <;> (simp; done)) | (refine sLe.clear ?_ ?_ <;> (first | (simp; done) | (simp; omega))) | (refine sLe.drop 1 ?_ ?_ ?_ <;> (simp; done))))
    rintro ⟨j, hj⟩
    simp only
    by_cases hj1 : j < X.length
    · have hji : (j : Int) < X.length := by omega
      have hwj : IntKind.wrap .i64 ((j : Int) + 1) = (j + 1 : Nat) := wrap_id (by omega) (by omega)
      obtain ⟨x, hx, hx'⟩ := get_ex hj1
      have hS := hX j x hx
      have hA1 := hac j (by omega)
      have hn1 : (accH X (j + 1)).1 = (accH X j).1 + x.hours := by
        have : X.getD j default = x := by simp [List.getD, hx]
        simp only [accH, this]
      have sh0 := hS.h0
      have sh1 := hS.h1
      have w1 : IntKind.wrap .i64 (pt.hours + (accH X j).1 + x.hours) = pt.hours + ((accH X j).1 + x.hours) := by rw [wrap_id (by omega) (by omega)]; omega
      have w2 : IntKind.wrap .i64 (pt.hours + ((accH X j).1 + x.hours)) = pt.hours + ((accH X j).1 + x.hours) := wrap_id (by omega) (by omega)
      simp -dsimp [hji]
      repeat' (first | omega | (simp -dsimp [E3, ri, cellp, ints, hji, hj1, hx, hx', Stt.row, hwj, w1]) | (refine Also.intro ?_ fun _ => ?_) | (refine Hold.intro fun _ => ?_) | (refine And.intro ?_ ?_))
      refine ⟨⟨j + 1, by omega⟩, tle_chain rfl ?_, (by (try simp -dsimp only [hpush_noH, hpush_hps, hps_over]); refine hle_hps ?_; simp -dsimp [allK, ]; repeat' (first | (refine And.intro ?_ ?_) | (refine sLe.same ?_ ?_ <;> (simp; done)) | (refine sLe.clear ?_ ?_ <;> (first | (simp; done) | (simp; omega))) | (refine sLe.drop 1 ?_ ?_ ?_ <;> (simp; done)))), by simp only; omega⟩
      simp [okAll, okv, hn1, w2]
    have hjn : ¬ (j : Int) < X.length := by omega
    have hje : j = X.length := by omega
    subst hje
    simp -dsimp [hjn]
    repeat' (first | omega | (simp -dsimp [E3, ri, cellp, ints, hjn, hsn, huU, hug, hug', cycV]) | (refine Also.intro ?_ fun _ => ?_) | (refine Hold.intro fun _ => ?_) | (refine And.intro ?_ ?_))
theorem ok3 : FnOK Tryz.prog 3 (.pure lawTwS) := pure_fn (E := E3) rfl (.cons Tab.ok5 (.cons Ch.ok6 (.cons ok7 (.cons ok8 (.cons ok9 (.cons ok10 .nil)))))) (ok := []) (fn := Tryz.f3) (by kernel_rfl) (by kernel_rfl) (by kernel_rfl) (by kernel_rfl) rfl (fun _ _ => by simp) b3
end Go.Sx
end
