/- A part of a proof; no conditions. -/
import Derived.Test.YtnpdjaikmdagmaaGreatDoorP12
import Derived.Test.YtnpdjaikmdagmaaGreatDoorP22
import Derived.Test.YtnpdjaikmdagmaaGreatDoorP13
set_option linter.unusedSimpArgs false
set_option linter.unusedVariables false
set_option linter.unusedSectionVars false
section
/- Parts: the program's pages. No conditions. -/
set_option linter.unusedSimpArgs false
set_option linter.unusedSectionVars false
set_option maxRecDepth 100000
set_option maxHeartbeats 2000000
namespace Go.Sx
open Go.Proofs
attribute [local irreducible] HLe

@[simp] def spE (f : Sp) : List V := [.agg f.row]
theorem spE_inj (a b : Sp) (h : spE a = spE b) : a = b := Sp.row_inj _ _ (by simpa using h)
theorem spE_dec (f : Sp) : decC spE [.agg [.int .i64 f.lo, .int .i64 f.hi]] = f := decC_eq spE_inj f
theorem mapRow_inj {α : Type} {row : α → List V} (inj : ∀ a b, row a = row b → a = b) {a b : List α} (h : a.map row = b.map row) : a = b := by
  induction a generalizing b with
  | nil => cases b with
    | nil => rfl
    | cons => simp at h
  | cons x a ih =>
    cases b with
    | nil => simp at h
    | cons y b =>
      simp only [List.map_cons, List.cons.injEq] at h
      rw [inj _ _ h.1, ih h.2]
/-! spans -/
noncomputable abbrev E119 : Env := { P := Tryz.prog, fn := tbl [], own := [], key := 11900, nt := 15 }
theorem b119 : PureBody E119 [] Tryz.f119 withinS := by
  refine pb ?_
  rintro ⟨n, a, b⟩ _
  simp -dsimp [Tryz.f119, E119, withinB]
  repeat' (first | omega | (simp -dsimp [E119, ri, cellp, ints, *]) | (refine Also.intro ?_ fun _ => ?_) | (refine Hold.intro fun _ => ?_) | (refine And.intro ?_ ?_))
theorem ok119 : FnOK Tryz.prog 119 (.pure withinS) := pure_fn (E := E119) rfl LOK.nil (ok := []) (fn := Tryz.f119) (by kernel_rfl) (by kernel_rfl) (by kernel_rfl) (by kernel_rfl) rfl (fun _ _ => by simp) b119
def spN (f : Sp) : Bool := !(withinB f.lo (-1000000) f.hi && decide (f.hi ≤ 1000000))
noncomputable abbrev spvS : PSpec := mkP spE (fun _ => True) fun f => .bool (!spN f)
noncomputable abbrev spnS : PSpec := mkP spE (fun _ => True) fun f => .bool (spN f)
noncomputable abbrev E124 : Env := { P := Tryz.prog, fn := tbl [(119, .pure withinS)], own := [], key := 12400, nt := 13 }
theorem b124 : PureBody E124 [] Tryz.f124 spvS := by
  refine pb ?_
  rintro f _
  simp -dsimp [Tryz.f124, E124, Sp.row, spN]
  repeat' (first | omega | (simp -dsimp [E124, ri, cellp, ints, Sp.row, spN]) | (refine Also.intro ?_ fun _ => ?_) | (refine Hold.intro fun _ => ?_) | (refine And.intro ?_ ?_))
theorem ok124 : FnOK Tryz.prog 124 (.pure spvS) := pure_fn (E := E124) rfl (.cons ok119 .nil) (ok := []) (fn := Tryz.f124) (by kernel_rfl) (by kernel_rfl) (by kernel_rfl) (by kernel_rfl) rfl (fun _ _ => by simp) b124
noncomputable abbrev E123 : Env := { P := Tryz.prog, fn := tbl [(124, .pure spvS)], own := [], key := 12300, nt := 6 }
theorem b123 : PureBody E123 [] Tryz.f123 spnS := by
  refine pb ?_
  rintro f _
  simp -dsimp [Tryz.f123, E123, Sp.row]
  repeat' (first | omega | (simp -dsimp [E123, ri, cellp, ints, Sp.row, spE_dec]) | (refine Also.intro ?_ fun _ => ?_) | (refine Hold.intro fun _ => ?_) | (refine And.intro ?_ ?_))
theorem ok123 : FnOK Tryz.prog 123 (.pure spnS) := pure_fn (E := E123) rfl (.cons ok124 .nil) (ok := []) (fn := Tryz.f123) (by kernel_rfl) (by kernel_rfl) (by kernel_rfl) (by kernel_rfl) rfl (fun _ _ => by simp) b123
@[simp] def spssE (d : List Sp) : List V := [.sl 2 (d.map Sp.row), .fn 123 []]
theorem spssE_inj (a b : List Sp) (h : spssE a = spssE b) : a = b := by
  simp only [spssE, List.cons.injEq, V.sl.injEq, true_and, and_true] at h
  exact mapRow_inj Sp.row_inj h
theorem spssE_dec (l : List Sp) : decC spssE [.sl 2 (l.map Sp.row), .fn 123 []] = l := decC_eq spssE_inj l
noncomputable abbrev spsixS : PSpec := mkP spssE (fun d => d.length ≤ 1000000) fun d => .int .i64 (idxZ d spN)
noncomputable abbrev spsanS : PSpec := mkP spssE (fun d => d.length ≤ 1000000) fun d => .bool (d.any spN)
noncomputable abbrev E140 : Env := { P := Tryz.prog, fn := tbl [(123, .pure spnS)], own := [], key := 14000, nt := 19 }
theorem b140 : PureBody E140 [] Tryz.f140 spsixS := by
  refine pb ?_
  rintro l hl
  have hl : l.length ≤ 1000000 := hl
  simp -dsimp [Tryz.f140, E140]
  refine awp_loop [9, 10, 5, 11, 12, 13, 14, 15, 16, 17, 4, 18, 8] (fun k : { k : Nat // k ≤ l.length ∧ ∀ j (h : j < l.length), j < k → spN l[j] = false } => [(8, (true, .int .i64 k.1))]) (fun _ => noH) (fun k => l.length - k.1) ⟨0, by omega, fun _ _ h => by omega⟩ ?_ (HLe.refl _) ?_
  · simp [okAll, okv]
  rintro ⟨k, hk, hall⟩
  by_cases hk1 : k < l.length
  · have hki : (k : Int) < l.length := by omega
    have wk : IntKind.wrap .i64 ((k : Int) + 1) = (k + 1 : Nat) := wrap_id (by omega) (by omega)
    cases hw : spN l[k]
    · simp -dsimp [hki]
      repeat' (first | omega | (simp -dsimp [E140, ri, cellp, ints, hki, hk1, hl, hw, wk, Sp.row, spE_dec]) | (refine Also.intro ?_ fun _ => ?_) | (refine Hold.intro fun _ => ?_) | (refine And.intro ?_ ?_))
      refine ⟨k + 1, tle_chain rfl ?_, HLe.refl _, ⟨by omega, fun j h hj => ?_⟩, by omega⟩
      · simp [okAll, okv]
      · by_cases hjk : j = k
        · subst hjk; exact hw
        · exact hall j h (by omega)
    · have hz := idxZ_at l spN hk1 hw hall
      simp -dsimp [hki]
      repeat' (first | omega | (simp -dsimp [E140, ri, cellp, ints, hki, hk1, hl, hw, wk, hz, Sp.row, spE_dec]) | (refine Also.intro ?_ fun _ => ?_) | (refine Hold.intro fun _ => ?_) | (refine And.intro ?_ ?_))
  · have hkn : ¬ (k : Int) < l.length := by omega
    have hz := idxZ_none l spN (fun j h => hall j h (by omega))
    simp -dsimp [hkn]
    repeat' (first | omega | (simp -dsimp [E140, ri, cellp, ints, hkn, hz]) | (refine Also.intro ?_ fun _ => ?_) | (refine Hold.intro fun _ => ?_) | (refine And.intro ?_ ?_))
theorem ok140 : FnOK Tryz.prog 140 (.pure spsixS) := pure_fn (E := E140) rfl (.cons ok123 .nil) (ok := []) (fn := Tryz.f140) (by kernel_rfl) (by kernel_rfl) (by kernel_rfl) (by kernel_rfl) rfl (fun _ _ => by simp) b140
noncomputable abbrev E122 : Env := { P := Tryz.prog, fn := tbl [(140, .pure spsixS)], own := [], key := 12200, nt := 9 }
theorem b122 : PureBody E122 [] Tryz.f122 spsanS := by
  refine pb ?_
  rintro l hl
  have hl : l.length ≤ 1000000 := hl
  have hz := idxZ_any l spN
  simp -dsimp [Tryz.f122, E122]
  repeat' (first | omega | (simp -dsimp [E122, ri, cellp, ints, hl, spssE_dec, hz]) | (refine Also.intro ?_ fun _ => ?_) | (refine Hold.intro fun _ => ?_) | (refine And.intro ?_ ?_))
theorem ok122 : FnOK Tryz.prog 122 (.pure spsanS) := pure_fn (E := E122) rfl (.cons ok140 .nil) (ok := []) (fn := Tryz.f122) (by kernel_rfl) (by kernel_rfl) (by kernel_rfl) (by kernel_rfl) rfl (fun _ _ => by simp) b122
@[simp] def slE (d : List Sp) : List V := [.sl 2 (d.map Sp.row)]
theorem slE_inj (a b : List Sp) (h : slE a = slE b) : a = b := by
  simp only [slE, List.cons.injEq, V.sl.injEq, true_and, and_true] at h
  exact mapRow_inj Sp.row_inj h
theorem slE_dec (l : List Sp) : decC slE [.sl 2 (l.map Sp.row)] = l := decC_eq slE_inj l
theorem slE_dec1 (f : Sp) : decC slE [.sl 2 [[.int .i64 f.lo, .int .i64 f.hi]]] = [f] := decC_eq slE_inj [f]
noncomputable abbrev spdS : PSpec := mkP slE (fun d => d.length ≤ 1000000) fun d => .int .i64 (if d.any spN = true then 10 else 0)
noncomputable abbrev E72 : Env := { P := Tryz.prog, fn := tbl [(122, .pure spsanS)], own := [], key := 7200, nt := 5 }
theorem b72 : PureBody E72 [] Tryz.f72 spdS := by
  refine pb ?_
  rintro l hl
  have hl : l.length ≤ 1000000 := hl
  generalize h1 : l.any spN = b
  cases b
  · simp -dsimp [Tryz.f72, E72]
    repeat' (first | omega | (simp -dsimp [E72, ri, cellp, ints, hl, h1, spssE_dec]) | (refine Also.intro ?_ fun _ => ?_) | (refine Hold.intro fun _ => ?_) | (refine And.intro ?_ ?_))
  · simp -dsimp [Tryz.f72, E72]
    repeat' (first | omega | (simp -dsimp [E72, ri, cellp, ints, hl, h1, spssE_dec]) | (refine Also.intro ?_ fun _ => ?_) | (refine Hold.intro fun _ => ?_) | (refine And.intro ?_ ?_))
theorem ok72 : FnOK Tryz.prog 72 (.pure spdS) := pure_fn (E := E72) rfl (.cons ok122 .nil) (ok := []) (fn := Tryz.f72) (by kernel_rfl) (by kernel_rfl) (by kernel_rfl) (by kernel_rfl) rfl (fun _ _ => by simp) b72
noncomputable abbrev bxkS : PSpec := mkP slE (fun d => d.length ≤ 1000000) fun d => .int .i64 (if withinB d.length 1 3 = true ∧ d.any spN = false then 0 else 10)

end Go.Sx
end
section
/- Tables: between its knots a table is bilinear; what it has on a part of a box lies within what it has on the box. No conditions. -/
set_option linter.unusedSimpArgs false
set_option linter.unusedSectionVars false
namespace Go.Sx

structure Tb where
  xs : List Int
  ys : List Int
  vs : List (List Int)
deriving Inhabited
/-- knots that ascend -/
def asc (l : List Int) : Prop := ∀ i, i + 1 < l.length → l.getD i 0 < l.getD (i + 1) 0
theorem asc_lt {l : List Int} (h : asc l) {i k : Nat} (hik : i < k) (hk : k < l.length) : l.getD i 0 < l.getD k 0 := by
  induction k with
  | zero => omega
  | succ k ih =>
    have h1 := h k (by omega)
    by_cases e : i = k
    · subst e; exact h1
    · have := ih (by omega) (by omega); omega
theorem asc_le {l : List Int} (h : asc l) {i k : Nat} (hik : i ≤ k) (hk : k < l.length) : l.getD i 0 ≤ l.getD k 0 := by
  by_cases e : i = k
  · subst e; exact Int.le_refl _
  · exact Int.le_of_lt (asc_lt h (by omega) hk)
/-- x lies in the i-th part of an axis. -/
def inC (l : List Int) (i : Nat) (x : Int) : Prop := i + 1 < l.length ∧ l.getD i 0 ≤ x ∧ x ≤ l.getD (i + 1) 0
theorem inC_near {l : List Int} (h : asc l) {i k : Nat} {x : Int} (hi : inC l i x) (hk : inC l k x) (hik : i < k) : k = i + 1 ∧ x = l.getD k 0 := by
  obtain ⟨a1, a2, a3⟩ := hi; obtain ⟨b1, b2, b3⟩ := hk
  have h1 := asc_le h (show i + 1 ≤ k by omega) (by omega)
  have h2 : l.getD (i + 1) 0 = l.getD k 0 := by omega
  by_cases e : k = i + 1
  · subst e; exact ⟨rfl, by omega⟩
  · have := asc_lt h (show i + 1 < k by omega) (by omega); omega
/-- The numerator of a table's value above so much, in a part. -/
def Tb.v (t : Tb) (i k : Nat) : Int := (t.vs.getD i []).getD k 0
def Tb.num (t : Tb) (i k : Nat) (x y : Int) : Int :=
  (t.xs.getD (i + 1) 0 - x) * (t.ys.getD (k + 1) 0 - y) * t.v i k + (x - t.xs.getD i 0) * (t.ys.getD (k + 1) 0 - y) * t.v (i + 1) k
    + (t.xs.getD (i + 1) 0 - x) * (y - t.ys.getD k 0) * t.v i (k + 1) + (x - t.xs.getD i 0) * (y - t.ys.getD k 0) * t.v (i + 1) (k + 1)
def Tb.den (t : Tb) (i k : Nat) : Int := (t.xs.getD (i + 1) 0 - t.xs.getD i 0) * (t.ys.getD (k + 1) 0 - t.ys.getD k 0)
theorem mul_le_of {a x y : Int} (h : 0 ≤ a) (hxy : x ≤ y) : a * x ≤ a * y := Int.mul_le_mul_of_nonneg_left hxy h
theorem le_of_mul {a x y : Int} (h : 0 < a) (hxy : a * x ≤ a * y) : x ≤ y := Int.le_of_mul_le_mul_left hxy h
/-- What is linear, and at least 0 at both ends, is so between them. -/
theorem lin_nonneg {a b l h x : Int} (hl : l ≤ x) (hh : x ≤ h) (h1 : 0 ≤ a + b * l) (h2 : 0 ≤ a + b * h) : 0 ≤ a + b * x := by
  by_cases hb : 0 ≤ b
  · have := mul_le_of hb hl; omega
  · have := mul_le_of (show 0 ≤ -b by omega) hh
    rw [Int.neg_mul, Int.neg_mul] at this; omega
/-- At a point the table is at least L, in whichever part it is looked up. -/
def Tb.ge (t : Tb) (L : Int) (x y : Int) : Prop := ∀ i k, inC t.xs i x → inC t.ys k y → L * t.den i k ≤ t.num i k x y
theorem inC_pos {l : List Int} (h : asc l) {i : Nat} {x : Int} (hi : inC l i x) : 0 < l.getD (i + 1) 0 - l.getD i 0 := by
  have := h i hi.1; omega
theorem Tb.den_pos {t : Tb} (hx : asc t.xs) (hy : asc t.ys) {i k : Nat} {x y : Int} (hi : inC t.xs i x) (hk : inC t.ys k y) : 0 < t.den i k :=
  Int.mul_pos (inC_pos hx hi) (inC_pos hy hk)
/-- The same at a knot, from both sides. -/
theorem Tb.same_x {t : Tb} (hx : asc t.xs) {i k : Nat} {x y : Int} (hi : inC t.xs i x) (hi' : inC t.xs (i + 1) x) : t.num i k x y * t.den (i + 1) k = t.num (i + 1) k x y * t.den i k := by
  have e := (inC_near hx hi hi' (by omega)).2
  subst e
  unfold Tb.num Tb.den
  generalize t.xs.getD (i + 1 + 1) 0 = X2
  generalize t.xs.getD (i + 1) 0 = X1
  generalize t.xs.getD i 0 = X0
  generalize t.ys.getD (k + 1) 0 = Y1
  generalize t.ys.getD k 0 = Y0
  grind
theorem Tb.same_y {t : Tb} (hy : asc t.ys) {i k : Nat} {x y : Int} (hi : inC t.ys k y) (hi' : inC t.ys (k + 1) y) : t.num i k x y * t.den i (k + 1) = t.num i (k + 1) x y * t.den i k := by
  have e := (inC_near hy hi hi' (by omega)).2
  subst e
  unfold Tb.num Tb.den
  generalize t.ys.getD (k + 1 + 1) 0 = Y2
  generalize t.ys.getD (k + 1) 0 = Y1
  generalize t.ys.getD k 0 = Y0
  generalize t.xs.getD (i + 1) 0 = X1
  generalize t.xs.getD i 0 = X0
  grind
theorem Tb.same {t : Tb} (hx : asc t.xs) (hy : asc t.ys) {i k i' k' : Nat} {x y : Int} (hi : inC t.xs i x) (hk : inC t.ys k y) (hi' : inC t.xs i' x) (hk' : inC t.ys k' y) :
    t.num i k x y * t.den i' k' = t.num i' k' x y * t.den i k := by
  have sx : ∀ k, t.num i k x y * t.den i' k = t.num i' k x y * t.den i k := by
    intro k
    rcases Nat.lt_trichotomy i i' with h | h | h
    · obtain ⟨rfl, _⟩ := inC_near hx hi hi' h
      exact Tb.same_x hx hi hi'
    · subst h; rfl
    · obtain ⟨rfl, _⟩ := inC_near hx hi' hi h
      exact (Tb.same_x hx hi' hi).symm
  have sy : t.num i' k x y * t.den i' k' = t.num i' k' x y * t.den i' k := by
    rcases Nat.lt_trichotomy k k' with h | h | h
    · obtain ⟨rfl, _⟩ := inC_near hy hk hk' h
      exact Tb.same_y hy hk hk'
    · subst h; rfl
    · obtain ⟨rfl, _⟩ := inC_near hy hk' hk h
      exact (Tb.same_y hy hk' hk).symm
  have p1 := Tb.den_pos hx hy hi' hk
  have e1 := sx k
  have hc : t.den i' k * (t.num i k x y * t.den i' k') = t.den i' k * (t.num i' k' x y * t.den i k) := by
    have a1 : t.den i' k * (t.num i k x y * t.den i' k') = (t.num i k x y * t.den i' k) * t.den i' k' := by grind
    have a2 : t.den i' k * (t.num i' k' x y * t.den i k) = (t.num i' k' x y * t.den i' k) * t.den i k := by grind
    rw [a1, a2, e1, ← sy]; grind
  exact Int.eq_of_mul_eq_mul_left (by omega) hc
theorem Tb.ge_of {t : Tb} (hx : asc t.xs) (hy : asc t.ys) {L x y : Int} {i k : Nat} (hi : inC t.xs i x) (hk : inC t.ys k y) (h : L * t.den i k ≤ t.num i k x y) : t.ge L x y := by
  intro i' k' hi' hk'
  have e := Tb.same hx hy hi hk hi' hk'
  have p := Tb.den_pos hx hy hi hk
  have p' := Tb.den_pos hx hy hi' hk'
  have h1 := mul_le_of (Int.le_of_lt p') h
  refine le_of_mul p ?_
  have a1 : t.den i k * (L * t.den i' k') = t.den i' k' * (L * t.den i k) := by grind
  have a2 : t.den i k * t.num i' k' x y = t.num i' k' x y * t.den i k := Int.mul_comm _ _
  have a3 : t.den i' k' * t.num i k x y = t.num i k x y * t.den i' k' := Int.mul_comm _ _
  rw [a1, a2, ← e, ← a3]; exact h1
/-- Along x, within one part. -/
theorem Tb.ge_x {t : Tb} (hx : asc t.xs) (hy : asc t.ys) {L l h x y : Int} {i k : Nat} (hl : inC t.xs i l) (hh : inC t.xs i h) (hk : inC t.ys k y) (h1 : t.ge L l y) (h2 : t.ge L h y) (hlx : l ≤ x) (hxh : x ≤ h) : t.ge L x y := by
  have hi : inC t.xs i x := ⟨hl.1, by have := hl.2.1; omega, by have := hh.2.2; omega⟩
  refine Tb.ge_of hx hy hi hk ?_
  have a := h1 i k hl hk
  have b := h2 i k hh hk
  unfold Tb.num Tb.den at *
  generalize t.xs.getD (i + 1) 0 = X1 at *
  generalize t.xs.getD i 0 = X0 at *
  generalize t.ys.getD (k + 1) 0 = Y1 at *
  generalize t.ys.getD k 0 = Y0 at *
  generalize t.v i k = p at *
  generalize t.v (i + 1) k = q at *
  generalize t.v i (k + 1) = r at *
  generalize t.v (i + 1) (k + 1) = s at *
  have idn : ∀ z : Int, (X1 - z) * (Y1 - y) * p + (z - X0) * (Y1 - y) * q + (X1 - z) * (y - Y0) * r + (z - X0) * (y - Y0) * s - L * ((X1 - X0) * (Y1 - Y0))
      = (X1 * ((Y1 - y) * p + (y - Y0) * r - L * (Y1 - Y0)) - X0 * ((Y1 - y) * q + (y - Y0) * s - L * (Y1 - Y0))) + (((Y1 - y) * q + (y - Y0) * s - L * (Y1 - Y0)) - ((Y1 - y) * p + (y - Y0) * r - L * (Y1 - Y0))) * z := by
    intro z; grind
  have i1 := idn l; have i2 := idn h; have i3 := idn x
  have := lin_nonneg hlx hxh (a := X1 * ((Y1 - y) * p + (y - Y0) * r - L * (Y1 - Y0)) - X0 * ((Y1 - y) * q + (y - Y0) * s - L * (Y1 - Y0))) (b := ((Y1 - y) * q + (y - Y0) * s - L * (Y1 - Y0)) - ((Y1 - y) * p + (y - Y0) * r - L * (Y1 - Y0))) (by omega) (by omega)
  omega
/-- The same table with its axes changed about. -/
def Tb.tr (t : Tb) (f : Nat → Nat → Int) (n m : Nat) : Tb := ⟨t.ys, t.xs, (List.range n).map fun k => (List.range m).map fun i => f k i⟩
theorem Tb.ge_y {t : Tb} (hx : asc t.xs) (hy : asc t.ys) {L l h x y : Int} {i k : Nat} (hl : inC t.ys k l) (hh : inC t.ys k h) (hi : inC t.xs i x) (h1 : t.ge L x l) (h2 : t.ge L x h) (hlx : l ≤ y) (hxh : y ≤ h) : t.ge L x y := by
  have hk : inC t.ys k y := ⟨hl.1, by have := hl.2.1; omega, by have := hh.2.2; omega⟩
  refine Tb.ge_of hx hy hi hk ?_
  have a := h1 i k hi hl
  have b := h2 i k hi hh
  unfold Tb.num Tb.den at *
  generalize t.xs.getD (i + 1) 0 = X1 at *
  generalize t.xs.getD i 0 = X0 at *
  generalize t.ys.getD (k + 1) 0 = Y1 at *
  generalize t.ys.getD k 0 = Y0 at *
  generalize t.v i k = p at *
  generalize t.v (i + 1) k = q at *
  generalize t.v i (k + 1) = r at *
  generalize t.v (i + 1) (k + 1) = s at *
  have idn : ∀ z : Int, (X1 - x) * (Y1 - z) * p + (x - X0) * (Y1 - z) * q + (X1 - x) * (z - Y0) * r + (x - X0) * (z - Y0) * s - L * ((X1 - X0) * (Y1 - Y0))
      = (Y1 * ((X1 - x) * p + (x - X0) * q - L * (X1 - X0)) - Y0 * ((X1 - x) * r + (x - X0) * s - L * (X1 - X0))) + (((X1 - x) * r + (x - X0) * s - L * (X1 - X0)) - ((X1 - x) * p + (x - X0) * q - L * (X1 - X0))) * z := by
    intro z; grind
  have i1 := idn l; have i2 := idn h; have i3 := idn y
  have := lin_nonneg hlx hxh (a := Y1 * ((X1 - x) * p + (x - X0) * q - L * (X1 - X0)) - Y0 * ((X1 - x) * r + (x - X0) * s - L * (X1 - X0))) (b := ((X1 - x) * r + (x - X0) * s - L * (X1 - X0)) - ((X1 - x) * p + (x - X0) * q - L * (X1 - X0))) (by omega) (by omega)
  omega
/-- The ends of a span, and the knots within it. -/
def stops (l : List Int) (a : Sp) : List Int := a.lo :: (l.filter fun x => decide (a.lo < x ∧ x < a.hi)) ++ if a.lo < a.hi then [a.hi] else []
def lies (l : List Int) (a : Sp) : Prop := l.getD 0 0 ≤ a.lo ∧ a.hi ≤ l.getD (l.length - 1) 0
theorem mem_stops {l : List Int} {a : Sp} {x : Int} (hlh : a.lo ≤ a.hi) : x ∈ stops l a ↔ x = a.lo ∨ x = a.hi ∨ (x ∈ l ∧ a.lo < x ∧ x < a.hi) := by
  unfold stops
  by_cases h : a.lo < a.hi
  · simp [h]; constructor
    · rintro (h | h | h)
      · exact .inl h
      · exact .inr (.inr h)
      · exact .inr (.inl h)
    · rintro (h | h | h)
      · exact .inl h
      · exact .inr (.inr h)
      · exact .inr (.inl h)
  · simp [h]; constructor
    · rintro (h | h)
      · exact .inl h
      · exact .inr (.inr h)
    · rintro (h | h | h)
      · exact .inl h
      · exact .inl (by omega)
      · exact .inr h
theorem stops_in {l : List Int} {a : Sp} {x : Int} (hlh : a.lo ≤ a.hi) (h : x ∈ stops l a) : a.lo ≤ x ∧ x ≤ a.hi := by
  rcases (mem_stops hlh).1 h with h | h | ⟨_, h⟩ <;> omega
theorem tbGet_mem {l : List Int} {i : Nat} (h : i < l.length) : l.getD i 0 ∈ l := by
  rw [show l.getD i 0 = l[i] by simp [List.getD, h]]
  exact List.getElem_mem h
/-- A number of a span has stops to both sides of it, in one part. -/
theorem stops_near {l : List Int} (hA : asc l) {a : Sp} (hl : lies l a) {x : Int} {i : Nat} (hi : inC l i x) (h1 : a.lo ≤ x) (h2 : x ≤ a.hi) :
    ∃ p ∈ stops l a, ∃ q ∈ stops l a, inC l i p ∧ inC l i q ∧ p ≤ x ∧ x ≤ q := by
  obtain ⟨b1, b2, b3⟩ := hi
  have hlt := hA i b1
  have hlh : a.lo ≤ a.hi := by omega
  have hp : ∃ p ∈ stops l a, inC l i p ∧ p ≤ x := by
    by_cases h : a.lo < l.getD i 0
    · refine ⟨l.getD i 0, ?_, ⟨b1, by omega, by omega⟩, b2⟩
      rw [mem_stops hlh]
      by_cases e : l.getD i 0 = a.hi
      · exact .inr (.inl e)
      · exact .inr (.inr ⟨tbGet_mem (by omega), h, by omega⟩)
    · exact ⟨a.lo, (mem_stops hlh).2 (.inl rfl), ⟨b1, by omega, by omega⟩, h1⟩
  have hq : ∃ q ∈ stops l a, inC l i q ∧ x ≤ q := by
    by_cases h : l.getD (i + 1) 0 < a.hi
    · refine ⟨l.getD (i + 1) 0, ?_, ⟨b1, by omega, by omega⟩, b3⟩
      rw [mem_stops hlh]
      by_cases e : l.getD (i + 1) 0 = a.lo
      · exact .inl e
      · exact .inr (.inr ⟨tbGet_mem (by omega), by omega, h⟩)
    · exact ⟨a.hi, (mem_stops hlh).2 (.inr (.inl rfl)), ⟨b1, by omega, by omega⟩, h2⟩
  obtain ⟨p, p1, p2, p3⟩ := hp
  obtain ⟨q, q1, q2, q3⟩ := hq
  exact ⟨p, p1, q, q1, p2, q2, p3, q3⟩
/-- Each number between the first and the last knot lies in a part. -/
theorem inC_ex {l : List Int} (h2 : 2 ≤ l.length) {x : Int} (h0 : l.getD 0 0 ≤ x) (h1 : x ≤ l.getD (l.length - 1) 0) : ∃ i, inC l i x := by
  suffices h : ∀ n, n + 1 ≤ l.length → 1 ≤ n → x ≤ l.getD n 0 → ∃ i, inC l i x from h (l.length - 1) (by omega) (by omega) h1
  intro n
  induction n with
  | zero => intro _ h _; omega
  | succ n ih =>
    intro hn _ hx
    by_cases hc : l.getD n 0 ≤ x
    · exact ⟨n, by omega, hc, hx⟩
    · by_cases e : n = 0
      · subst e; omega
      · exact ih (by omega) (by omega) (by omega)
/-- A table that is at least L at all corners is so on the whole box. -/
theorem Tb.ge_box {t : Tb} (hx : asc t.xs) (hy : asc t.ys) (h2x : 2 ≤ t.xs.length) (h2y : 2 ≤ t.ys.length) {L : Int} {a b : Sp} (la : lies t.xs a) (lb : lies t.ys b)
    (h : ∀ p ∈ stops t.xs a, ∀ q ∈ stops t.ys b, t.ge L p q) {x y : Int} (hx1 : a.lo ≤ x) (hx2 : x ≤ a.hi) (hy1 : b.lo ≤ y) (hy2 : y ≤ b.hi) : t.ge L x y := by
  have hah : a.lo ≤ a.hi := by omega
  have hbh : b.lo ≤ b.hi := by omega
  obtain ⟨i, hi⟩ := inC_ex h2x (x := x) (by have := la.1; omega) (by have := la.2; omega)
  obtain ⟨k, hk⟩ := inC_ex h2y (x := y) (by have := lb.1; omega) (by have := lb.2; omega)
  have st : ∀ q ∈ stops t.ys b, t.ge L x q := by
    intro q hq
    have hqb := stops_in hbh hq
    obtain ⟨k', hk'⟩ := inC_ex h2y (x := q) (by have := lb.1; omega) (by have := lb.2; omega)
    obtain ⟨p, p1, p', p2, p3, p4, p5, p6⟩ := stops_near hx la hi hx1 hx2
    exact Tb.ge_x hx hy p3 p4 hk' (h p p1 q hq) (h p' p2 q hq) p5 p6
  obtain ⟨q, q1, q', q2, q3, q4, q5, q6⟩ := stops_near hy lb hk hy1 hy2
  exact Tb.ge_y hx hy q3 q4 hi (st q q1) (st q' q2) q5 q6
end Go.Sx
end
section
/- Tables: axes, valid tables, spans on them. No conditions. -/
set_option linter.unusedSimpArgs false
set_option linter.unusedSectionVars false
set_option maxRecDepth 100000
set_option maxHeartbeats 4000000
namespace Go.Sx.Tab
open Go.Proofs Go.Sx
attribute [local irreducible] HLe
attribute [local simp] hps_app

theorem get_ex {α : Type} {l : List α} {k : Nat} (h : k < l.length) : ∃ a, l[k]? = some a ∧ l[k] = a := ⟨_, List.getElem?_eq_getElem h, rfl⟩
theorem ri_inj (a b : Int) (h : ri a = ri b) : a = b := by simpa [ri] using h
theorem ints_inj (a b : List Int) (h : ints a = ints b) : a = b := by
  simp only [ints, V.sl.injEq, true_and] at h
  exact mapRow_inj ri_inj h
def rwI (l : List Int) : List V := [ints l]
theorem rwI_inj (a b : List Int) (h : rwI a = rwI b) : a = b := ints_inj _ _ (by simpa [rwI] using h)
def tabR (t : Tb) : List V := [ints t.xs, ints t.ys, .sl 1 (t.vs.map rwI)]
theorem tabR_inj (a b : Tb) (h : tabR a = tabR b) : a = b := by
  obtain ⟨a1, a2, a3⟩ := a; obtain ⟨b1, b2, b3⟩ := b
  simp only [tabR, List.cons.injEq, V.sl.injEq, true_and, and_true] at h
  rw [ints_inj _ _ h.1, ints_inj _ _ h.2.1, mapRow_inj rwI_inj h.2.2]

@[simp] def i1E (d : Int) : List V := [.int .i64 d]
theorem i1E_inj (a b : Int) (h : i1E a = i1E b) : a = b := by simpa using h
theorem i1E_dec (n : Int) : decC i1E [.int .i64 n] = n := decC_eq i1E_inj n
def far6 (n : Int) : Bool := !withinB n (-1000000) 1000000
noncomputable abbrev outS : PSpec := mkP i1E (fun _ => True) fun n => .bool (far6 n)
noncomputable abbrev E118 : Env := { P := Tryz.prog, fn := tbl [(119, .pure withinS)], own := [], key := 11800, nt := 6 }
theorem b118 : PureBody E118 [] Tryz.f118 outS := by
  refine pb ?_
  rintro n _
  simp -dsimp [Tryz.f118, E118]
  repeat' (first | omega | (simp -dsimp [E118, ri, cellp, ints, far6]) | (refine Also.intro ?_ fun _ => ?_) | (refine Hold.intro fun _ => ?_) | (refine And.intro ?_ ?_))
theorem ok118 : FnOK Tryz.prog 118 (.pure outS) := pure_fn (E := E118) rfl (.cons ok119 .nil) (ok := []) (fn := Tryz.f118) (by kernel_rfl) (by kernel_rfl) (by kernel_rfl) (by kernel_rfl) rfl (fun _ _ => by simp) b118
@[simp] def farsE (d : List Int) : List V := [.sl 1 (d.map ri), .fn 118 []]
theorem farsE_inj (a b : List Int) (h : farsE a = farsE b) : a = b := by
  simp only [farsE, List.cons.injEq, V.sl.injEq, true_and, and_true] at h
  exact mapRow_inj ri_inj h
theorem farsE_dec (l : List Int) : decC farsE [.sl 1 (l.map ri), .fn 118 []] = l := decC_eq farsE_inj l
noncomputable abbrev farixS : PSpec := mkP farsE (fun d => d.length ≤ 1000000) fun d => .int .i64 (idxZ d far6)
noncomputable abbrev faranS : PSpec := mkP farsE (fun d => d.length ≤ 1000000) fun d => .bool (d.any far6)
noncomputable abbrev E128 : Env := { P := Tryz.prog, fn := tbl [(118, .pure outS)], own := [], key := 12800, nt := 19 }
theorem b128 : PureBody E128 [] Tryz.f128 farixS := by
  refine pb ?_
  rintro l hl
  have hl : l.length ≤ 1000000 := hl
  simp -dsimp [Tryz.f128, E128]
  refine awp_loop [9, 10, 5, 11, 12, 13, 14, 15, 16, 17, 4, 18, 8] (fun k : { k : Nat // k ≤ l.length ∧ ∀ j (h : j < l.length), j < k → far6 l[j] = false } => [(8, (true, .int .i64 k.1))]) (fun _ => noH) (fun k => l.length - k.1) ⟨0, by omega, fun _ _ h => by omega⟩ ?_ (HLe.refl _) ?_
  · simp [okAll, okv]
  rintro ⟨k, hk, hall⟩
  by_cases hk1 : k < l.length
  · have hki : (k : Int) < l.length := by omega
    have wk : IntKind.wrap .i64 ((k : Int) + 1) = (k + 1 : Nat) := wrap_id (by omega) (by omega)
    cases hw : far6 l[k]
    · simp -dsimp [hki]
      repeat' (first | omega | (simp -dsimp [E128, ri, cellp, ints, hki, hk1, hl, hw, wk, i1E_dec]) | (refine Also.intro ?_ fun _ => ?_) | (refine Hold.intro fun _ => ?_) | (refine And.intro ?_ ?_))
      refine ⟨k + 1, tle_chain rfl ?_, HLe.refl _, ⟨by omega, fun j h hj => ?_⟩, by omega⟩
      · simp [okAll, okv]
      · by_cases hjk : j = k
        · subst hjk; exact hw
        · exact hall j h (by omega)
    · have hz := idxZ_at l far6 hk1 hw hall
      simp -dsimp [hki]
      repeat' (first | omega | (simp -dsimp [E128, ri, cellp, ints, hki, hk1, hl, hw, wk, hz, i1E_dec]) | (refine Also.intro ?_ fun _ => ?_) | (refine Hold.intro fun _ => ?_) | (refine And.intro ?_ ?_))
  · have hkn : ¬ (k : Int) < l.length := by omega
    have hz := idxZ_none l far6 (fun j h => hall j h (by omega))
    simp -dsimp [hkn]
    repeat' (first | omega | (simp -dsimp [E128, ri, cellp, ints, hkn, hz]) | (refine Also.intro ?_ fun _ => ?_) | (refine Hold.intro fun _ => ?_) | (refine And.intro ?_ ?_))
theorem ok128 : FnOK Tryz.prog 128 (.pure farixS) := pure_fn (E := E128) rfl (.cons ok118 .nil) (ok := []) (fn := Tryz.f128) (by kernel_rfl) (by kernel_rfl) (by kernel_rfl) (by kernel_rfl) rfl (fun _ _ => by simp) b128
noncomputable abbrev E78 : Env := { P := Tryz.prog, fn := tbl [(128, .pure farixS)], own := [], key := 7800, nt := 9 }
theorem b78 : PureBody E78 [] Tryz.f78 faranS := by
  refine pb ?_
  rintro l hl
  have hl : l.length ≤ 1000000 := hl
  have hz := idxZ_any l far6
  simp -dsimp [Tryz.f78, E78]
  repeat' (first | omega | (simp -dsimp [E78, ri, cellp, ints, hl, farsE_dec, hz]) | (refine Also.intro ?_ fun _ => ?_) | (refine Hold.intro fun _ => ?_) | (refine And.intro ?_ ?_))
theorem ok78 : FnOK Tryz.prog 78 (.pure faranS) := pure_fn (E := E78) rfl (.cons ok128 .nil) (ok := []) (fn := Tryz.f78) (by kernel_rfl) (by kernel_rfl) (by kernel_rfl) (by kernel_rfl) rfl (fun _ _ => by simp) b78

/-! an axis -/
@[simp] def inE (d : List Int) : List V := [ints d]
theorem inE_inj (a b : List Int) (h : inE a = inE b) : a = b := ints_inj _ _ (by simpa using h)
theorem inE_dec (l : List Int) : decC inE [.sl 1 (l.map ri)] = l := decC_eq inE_inj l
def axAt (l : List Int) (i : Nat) : Bool := !far6 (l.getD i 0) && (decide (i = 0) || withinB (l.getD i 0 - l.getD (i - 1) 0) 1 10000)
def axB (l : List Int) : Bool := withinB l.length 2 12 && (List.range l.length).all (axAt l)
theorem axAt_of {l : List Int} {k : Nat} {x y : Int} (gx : l.getD k 0 = x) (gy : l.getD (k - 1) 0 = y) : axAt l k = (!far6 x && (decide (k = 0) || withinB (x - y) 1 10000)) := by subst gx gy; rfl
theorem axB_no {l : List Int} {k : Nat} (hk : k < l.length) (h : axAt l k = false) : axB l = false := by
  rw [axB, Bool.and_eq_false_iff]
  right
  rw [List.all_eq_false]
  exact ⟨k, by simpa using hk, by simp [h]⟩
theorem axB_ok {l : List Int} (h1 : withinB l.length 2 12 = true) (h : ∀ j, j < l.length → axAt l j = true) : axB l = true := by
  rw [axB, h1, Bool.true_and, List.all_eq_true]
  intro j hj
  exact h j (by simpa using hj)
noncomputable abbrev axS : PSpec := mkP inE (fun l => l.length ≤ 9223372036854775807) fun l => .bool (axB l)
noncomputable abbrev E121 : Env := { P := Tryz.prog, fn := tbl [(119, .pure withinS)], own := [], key := 12100, nt := 35 }
theorem b121 : PureBody E121 [] Tryz.f121 axS := by
  refine pb ?_
  rintro l hl
  have hl : l.length ≤ 9223372036854775807 := hl
  cases h1 : withinB l.length 2 12
  · have hz : axB l = false := by simp [axB, h1]
    simp -dsimp [Tryz.f121, E121]
    repeat' (first | omega | (simp -dsimp [E121, ri, cellp, ints, hl, h1, hz]) | (refine Also.intro ?_ fun _ => ?_) | (refine Hold.intro fun _ => ?_) | (refine And.intro ?_ ?_))
  have h12 : 2 ≤ (l.length : Int) ∧ (l.length : Int) ≤ 12 := by simpa [withinB] using h1
  simp -dsimp [Tryz.f121, E121]
  repeat' (first | omega | (simp -dsimp [E121, ri, cellp, ints, hl, h1]) | (refine Also.intro ?_ fun _ => ?_) | (refine Hold.intro fun _ => ?_) | (refine And.intro ?_ ?_))
  refine awp_loop [12, 13, 14, 15, 3, 4, 16, 17, 18, 19, 20, 21, 22, 23, 24, 25, 26, 27, 28, 29, 30, 31, 32, 33, 2, 34, 11] (fun k : { k : Nat // k ≤ l.length ∧ ∀ j, j < k → axAt l j = true } => [(11, (true, .int .i64 k.1))]) (fun _ => noH) (fun k => l.length - k.1) ⟨0, by omega, fun _ h => by omega⟩ ?_ (HLe.refl _) ?_
  · simp [okAll, okv]
  rintro ⟨k, hk, hall⟩
  dsimp only
  by_cases hk1 : k < l.length
  · have hki : ((k : Int) < l.length) = True := eq_true (by omega)
    have wk : IntKind.wrap .i64 ((k : Int) + 1) = (k + 1 : Nat) := wrap_id (by omega) (by omega)
    obtain ⟨x, hx, hx'⟩ := get_ex hk1
    have gx : l.getD k 0 = x := by simp [List.getD, hx]
    cases hf : withinB x (-1000000) 1000000
    · have hz := axB_no hk1 (by rw [axAt_of gx rfl]; simp [far6, hf])
      simp -dsimp [hki]
      repeat' (first | omega | (simp -dsimp [E121, ri, cellp, ints, hki, hk1, hx, hx', hf, hz]) | (refine Also.intro ?_ fun _ => ?_) | (refine Hold.intro fun _ => ?_) | (refine And.intro ?_ ?_))
    · have hfx : -1000000 ≤ x ∧ x ≤ 1000000 := by simpa [withinB] using hf
      by_cases hk0 : k = 0
      · have ha : axAt l k = true := by rw [axAt_of gx rfl]; simp [far6, hf, hk0]
        have hk0' : ((0 : Int) < k) = False := eq_false (by omega)
        have hk0n : (0 < k) = False := eq_false (by omega)
        simp -dsimp [hki]
        repeat' (first | omega | (simp -dsimp [E121, ri, cellp, ints, hki, hk1, hx, hx', hf, hk0', hk0n, wk]) | (refine Also.intro ?_ fun _ => ?_) | (refine Hold.intro fun _ => ?_) | (refine And.intro ?_ ?_))
        refine ⟨k + 1, tle_chain rfl ?_, HLe.refl _, ⟨by omega, fun j hj => ?_⟩, by omega⟩
        · simp [okAll, okv]
        · have : j = k := by omega
          subst this; exact ha
      · have hk0' : ((0 : Int) < k) = True := eq_true (by omega)
        have hk0n : (0 < k) = True := eq_true (by omega)
        have wkm : IntKind.wrap .i64 ((k : Int) - 1) = (k - 1 : Nat) := by rw [wrap_id (by omega) (by omega)]; omega
        have hkm : k - 1 < l.length := by omega
        obtain ⟨y, hy, hy'⟩ := get_ex hkm
        have gy : l.getD (k - 1) 0 = y := by simp [List.getD, hy]
        have hyr : -1000000 ≤ y ∧ y ≤ 1000000 := by
          have := hall (k - 1) (by omega)
          simp only [axAt, gy, far6, Bool.and_eq_true, Bool.not_not] at this
          simpa [withinB] using this.1
        have wxy : IntKind.wrap .i64 (x - y) = x - y := wrap_id (by omega) (by omega)
        cases hd : withinB (x - y) 1 10000
        · have hz := axB_no hk1 (by rw [axAt_of gx gy]; simp [hd, hk0])
          simp -dsimp [hki]
          repeat' (first | omega | (simp -dsimp [E121, ri, cellp, ints, hki, hk1, hx, hx', hf, hk0', hk0n, wkm, hkm, hy, hy', wxy, hd, hz]) | (refine Also.intro ?_ fun _ => ?_) | (refine Hold.intro fun _ => ?_) | (refine And.intro ?_ ?_))
        · have ha : axAt l k = true := by rw [axAt_of gx gy]; simp [hd, far6, hf]
          simp -dsimp [hki]
          repeat' (first | omega | (simp -dsimp [E121, ri, cellp, ints, hki, hk1, hx, hx', hf, hk0', hk0n, wkm, hkm, hy, hy', wxy, hd, wk]) | (refine Also.intro ?_ fun _ => ?_) | (refine Hold.intro fun _ => ?_) | (refine And.intro ?_ ?_))
          refine ⟨k + 1, tle_chain rfl ?_, HLe.refl _, ⟨by omega, fun j hj => ?_⟩, by omega⟩
          · simp [okAll, okv]
          · by_cases e : j = k
            · subst e; exact ha
            · exact hall j (by omega)
  have hkn : ((k : Int) < l.length) = False := eq_false (by omega)
  have hz := axB_ok h1 fun j hj => hall j (by omega)
  simp -dsimp [hkn]
  repeat' (first | omega | (simp -dsimp [E121, ri, cellp, ints, hkn, hz]) | (refine Also.intro ?_ fun _ => ?_) | (refine Hold.intro fun _ => ?_) | (refine And.intro ?_ ?_))
theorem ok121 : FnOK Tryz.prog 121 (.pure axS) := pure_fn (E := E121) rfl (.cons ok119 .nil) (ok := []) (fn := Tryz.f121) (by kernel_rfl) (by kernel_rfl) (by kernel_rfl) (by kernel_rfl) rfl (fun _ _ => by simp) b121

/-! a valid table -/
structure TrD where
  t : Tb
  r : List Int
  deriving Inhabited
def tabI (t : Tb) : V := .ip 3 [tabR t] 0 0
def fnI : V := .ip 1 [[.fn 118 []]] 0 0
@[simp] def trE (d : TrD) : List V := [ints d.r, tabI d.t, fnI]
theorem trE_inj (a b : TrD) (h : trE a = trE b) : a = b := by
  obtain ⟨a1, a2⟩ := a; obtain ⟨b1, b2⟩ := b
  simp only [trE, List.cons.injEq, tabI, V.ip.injEq, true_and, and_true] at h
  rw [tabR_inj _ _ h.2, ints_inj _ _ h.1]
theorem trE_dec (t : Tb) (r : List Int) : decC trE [.sl 1 (r.map ri), .ip 3 [[.sl 1 (t.xs.map ri), .sl 1 (t.ys.map ri), .sl 1 (t.vs.map rwI)]] 0 0, .ip 1 [[.fn 118 []]] 0 0] = ⟨t, r⟩ := decC_eq trE_inj ⟨t, r⟩
def rowBad (t : Tb) (r : List Int) : Bool := !decide (r.length = t.ys.length) || r.any far6
noncomputable abbrev trS : PSpec := mkP trE (fun d => d.t.ys.length ≤ 1000000) fun d => .bool (rowBad d.t d.r)
noncomputable abbrev E120 : Env := { P := Tryz.prog, fn := tbl [(78, .pure faranS), (118, .pure outS)], own := [], key := 12000, nt := 16 }
theorem b120 : PureBody E120 [] Tryz.f120 trS := by
  refine pb ?_
  rintro ⟨t, r⟩ hl
  have hl : t.ys.length ≤ 1000000 := hl
  by_cases h : r.length = t.ys.length
  · have hi : (r.length : Int) = t.ys.length := by omega
    simp -dsimp [Tryz.f120, E120, tabI, tabR, fnI]
    repeat' (first | omega | (simp -dsimp [E120, ri, cellp, ints, hl, h, hi, tabR, farsE_dec, rowBad]) | (refine Also.intro ?_ fun _ => ?_) | (refine Hold.intro fun _ => ?_) | (refine And.intro ?_ ?_))
  · have hi : ((r.length : Int) = t.ys.length) = False := eq_false (by omega)
    simp -dsimp [Tryz.f120, E120, tabI, tabR, fnI]
    repeat' (first | omega | (simp -dsimp [E120, ri, cellp, ints, hl, h, hi, tabR, farsE_dec, rowBad]) | (refine Also.intro ?_ fun _ => ?_) | (refine Hold.intro fun _ => ?_) | (refine And.intro ?_ ?_))
theorem ok120 : FnOK Tryz.prog 120 (.pure trS) := pure_fn (E := E120) rfl (.cons ok78 (.cons ok118 .nil)) (ok := []) (fn := Tryz.f120) (by kernel_rfl) (by kernel_rfl) (by kernel_rfl) (by kernel_rfl) rfl (fun _ _ => by simp) b120
end Go.Sx.Tab
end
section
/- Tables: valid tables, spans on them, the part of an axis. No conditions. -/
set_option linter.unusedSimpArgs false
set_option linter.unusedSectionVars false
set_option maxRecDepth 100000
set_option maxHeartbeats 4000000
namespace Go.Sx.Tab
open Go.Proofs Go.Sx
attribute [local irreducible] HLe
attribute [local simp] hps_app

/-! rows of a table -/
structure TvD where
  t : Tb
  l : List (List Int)
  deriving Inhabited
@[simp] def tvE (d : TvD) : List V := [.sl 1 (d.l.map rwI), .fn 120 [tabI d.t, fnI]]
theorem tvE_inj (a b : TvD) (h : tvE a = tvE b) : a = b := by
  obtain ⟨a1, a2⟩ := a; obtain ⟨b1, b2⟩ := b
  simp only [tvE, List.cons.injEq, tabI, V.fn.injEq, V.ip.injEq, V.sl.injEq, true_and, and_true] at h
  rw [tabR_inj _ _ h.2, mapRow_inj rwI_inj h.1]
theorem tvE_dec (t : Tb) (l : List (List Int)) : decC tvE [.sl 1 (l.map rwI), .fn 120 [.ip 3 [[.sl 1 (t.xs.map ri), .sl 1 (t.ys.map ri), .sl 1 (t.vs.map rwI)]] 0 0, .ip 1 [[.fn 118 []]] 0 0]] = ⟨t, l⟩ := decC_eq tvE_inj ⟨t, l⟩
structure TvP (d : TvD) : Prop where
  y : d.t.ys.length ≤ 1000000
  n : d.l.length ≤ 1000000
noncomputable abbrev tviS : PSpec := mkP tvE TvP fun d => .int .i64 (idxZ d.l (rowBad d.t))
noncomputable abbrev tvaS : PSpec := mkP tvE TvP fun d => .bool (d.l.any (rowBad d.t))
noncomputable abbrev E77 : Env := { P := Tryz.prog, fn := tbl [(120, .pure trS)], own := [], key := 7700, nt := 19 }
theorem b77 : PureBody E77 [] Tryz.f77 tviS := by
  refine pb ?_
  rintro ⟨t, l⟩ ⟨hy, hl⟩
  simp only at hy hl
  simp -dsimp [Tryz.f77, E77, tabI, fnI, tabR]
  refine awp_loop [9, 10, 5, 11, 12, 13, 14, 15, 16, 17, 4, 18, 8] (fun k : { k : Nat // k ≤ l.length ∧ ∀ j (h : j < l.length), j < k → rowBad t l[j] = false } => [(8, (true, .int .i64 k.1))]) (fun _ => noH) (fun k => l.length - k.1) ⟨0, by omega, fun _ _ h => by omega⟩ ?_ (HLe.refl _) ?_
  · simp [okAll, okv]
  rintro ⟨k, hk, hall⟩
  by_cases hk1 : k < l.length
  · have hki : (k : Int) < l.length := by omega
    have wk : IntKind.wrap .i64 ((k : Int) + 1) = (k + 1 : Nat) := wrap_id (by omega) (by omega)
    obtain ⟨r, hg, hg'⟩ := get_ex hk1
    cases hw : rowBad t r
    · simp -dsimp [hki]
      repeat' (first | omega | (simp -dsimp [E77, ri, cellp, ints, hki, hk1, hl, hy, hw, wk, hg, hg', trE_dec, rwI, tabI, tabR, fnI]) | (refine Also.intro ?_ fun _ => ?_) | (refine Hold.intro fun _ => ?_) | (refine And.intro ?_ ?_))
      refine ⟨k + 1, tle_chain rfl ?_, HLe.refl _, ⟨by omega, fun j h hj => ?_⟩, by omega⟩
      · simp [okAll, okv]
      · by_cases hjk : j = k
        · subst hjk; rw [hg']; exact hw
        · exact hall j h (by omega)
    · have hz := idxZ_at l (rowBad t) hk1 (by rw [hg']; exact hw) hall
      simp -dsimp [hki]
      repeat' (first | omega | (simp -dsimp [E77, ri, cellp, ints, hki, hk1, hl, hy, hw, wk, hz, hg, hg', trE_dec, rwI, tabI, tabR, fnI]) | (refine Also.intro ?_ fun _ => ?_) | (refine Hold.intro fun _ => ?_) | (refine And.intro ?_ ?_))
  · have hkn : ¬ (k : Int) < l.length := by omega
    have hz := idxZ_none l (rowBad t) (fun j h => hall j h (by omega))
    simp -dsimp [hkn]
    repeat' (first | omega | (simp -dsimp [E77, ri, cellp, ints, hkn, hz]) | (refine Also.intro ?_ fun _ => ?_) | (refine Hold.intro fun _ => ?_) | (refine And.intro ?_ ?_))
theorem ok77 : FnOK Tryz.prog 77 (.pure tviS) := pure_fn (E := E77) rfl (.cons ok120 .nil) (ok := []) (fn := Tryz.f77) (by kernel_rfl) (by kernel_rfl) (by kernel_rfl) (by kernel_rfl) rfl (fun _ _ => by simp) b77
noncomputable abbrev E45 : Env := { P := Tryz.prog, fn := tbl [(77, .pure tviS)], own := [], key := 4500, nt := 9 }
theorem b45 : PureBody E45 [] Tryz.f45 tvaS := by
  refine pb ?_
  rintro ⟨t, l⟩ hP
  have hz := idxZ_any l (rowBad t)
  have hd := tvE_dec t l
  simp -dsimp [Tryz.f45, E45, tabI, fnI, tabR]
  repeat' (first | omega | (simp -dsimp [E45, ri, cellp, ints, hP, hd, hz, tabI, fnI, tabR]) | (refine Also.intro ?_ fun _ => ?_) | (refine Hold.intro fun _ => ?_) | (refine And.intro ?_ ?_))
theorem ok45 : FnOK Tryz.prog 45 (.pure tvaS) := pure_fn (E := E45) rfl (.cons ok77 .nil) (ok := []) (fn := Tryz.f45) (by kernel_rfl) (by kernel_rfl) (by kernel_rfl) (by kernel_rfl) rfl (fun _ _ => by simp) b45
@[simp] def tbE (t : Tb) : List V := [.agg (tabR t)]
theorem tbE_inj (a b : Tb) (h : tbE a = tbE b) : a = b := tabR_inj _ _ (by simpa using h)
theorem tbE_dec (t : Tb) : decC tbE [.agg [.sl 1 (t.xs.map ri), .sl 1 (t.ys.map ri), .sl 1 (t.vs.map rwI)]] = t := decC_eq tbE_inj t
def tbB (t : Tb) : Bool := axB t.xs && (axB t.ys && (decide (t.vs.length = t.xs.length) && !t.vs.any (rowBad t)))
structure TbP (t : Tb) : Prop where
  x : t.xs.length ≤ 1000000000000000000
  y : t.ys.length ≤ 1000000000000000000
  v : t.vs.length ≤ 1000000000000000000
noncomputable abbrev ctS : PSpec := mkP tbE TbP fun t => .int .i64 (if tbB t = true then 0 else 11)
theorem axB_len {l : List Int} (h : axB l = true) : 2 ≤ l.length ∧ l.length ≤ 12 := by
  simp only [axB, Bool.and_eq_true] at h
  have : 2 ≤ (l.length : Int) ∧ (l.length : Int) ≤ 12 := by simpa [withinB] using h.1
  omega
noncomputable abbrev E71 : Env := { P := Tryz.prog, fn := tbl [(118, .pure outS), (120, .pure trS), (121, .pure axS), (45, .pure tvaS)], own := [], key := 7100, nt := 31 }
theorem b71 : PureBody E71 [] Tryz.f71 ctS := by
  refine pb ?_
  rintro t ⟨bx, by', bv⟩
  have bx' : t.xs.length ≤ 9223372036854775807 := by omega
  have by'' : t.ys.length ≤ 9223372036854775807 := by omega
  cases h1 : axB t.xs
  · have hz : tbB t = false := by simp [tbB, h1]
    simp -dsimp [Tryz.f71, E71, tabR]
    repeat' (first | omega | (simp -dsimp [E71, ri, cellp, ints, bx', by'', h1, inE_dec, hz]) | (refine Also.intro ?_ fun _ => ?_) | (refine Hold.intro fun _ => ?_) | (refine And.intro ?_ ?_))
  cases h2 : axB t.ys
  · have hz : tbB t = false := by simp [tbB, h1, h2]
    simp -dsimp [Tryz.f71, E71, tabR]
    repeat' (first | omega | (simp -dsimp [E71, ri, cellp, ints, bx', by'', h1, h2, inE_dec, hz]) | (refine Also.intro ?_ fun _ => ?_) | (refine Hold.intro fun _ => ?_) | (refine And.intro ?_ ?_))
  by_cases h3 : t.vs.length = t.xs.length
  case neg =>
    have h3' : ((t.vs.length : Int) = t.xs.length) = False := eq_false (by omega)
    have hz : tbB t = false := by simp [tbB, h1, h2, h3]
    simp -dsimp [Tryz.f71, E71, tabR]
    repeat' (first | omega | (simp -dsimp [E71, ri, cellp, ints, bx', by'', h1, h2, h3, h3', inE_dec, hz]) | (refine Also.intro ?_ fun _ => ?_) | (refine Hold.intro fun _ => ?_) | (refine And.intro ?_ ?_))
  have h3' : ((t.vs.length : Int) = t.xs.length) = True := eq_true (by omega)
  have l1 := axB_len h1
  have l2 := axB_len h2
  have hP : TvP ⟨t, t.vs⟩ := ⟨by simp only; omega, by simp only; omega⟩
  cases h4 : t.vs.any (rowBad t)
  · have hz : tbB t = true := by simp [tbB, h1, h2, h3, h4]
    simp -dsimp [Tryz.f71, E71, tabR]
    repeat' (first | omega | (simp -dsimp [E71, ri, cellp, ints, bx', by'', h1, h2, h3, h3', h4, hP, tvE_dec, inE_dec, tabI, fnI, tabR, hz]) | (refine Also.intro ?_ fun _ => ?_) | (refine Hold.intro fun _ => ?_) | (refine And.intro ?_ ?_))
  · have hz : tbB t = false := by simp [tbB, h1, h2, h3, h4]
    simp -dsimp [Tryz.f71, E71, tabR]
    repeat' (first | omega | (simp -dsimp [E71, ri, cellp, ints, bx', by'', h1, h2, h3, h3', h4, hP, tvE_dec, inE_dec, tabI, fnI, tabR, hz]) | (refine Also.intro ?_ fun _ => ?_) | (refine Hold.intro fun _ => ?_) | (refine And.intro ?_ ?_))
theorem ok71 : FnOK Tryz.prog 71 (.pure ctS) := pure_fn (E := E71) rfl (.cons ok118 (.cons ok120 (.cons ok121 (.cons ok45 .nil)))) (ok := []) (fn := Tryz.f71) (by kernel_rfl) (by kernel_rfl) (by kernel_rfl) (by kernel_rfl) rfl (fun _ _ => by simp) b71

/-! a span on an axis -/
@[simp] def lsE (d : List Int × Sp) : List V := [ints d.1, .agg d.2.row]
theorem lsE_inj (a b : List Int × Sp) (h : lsE a = lsE b) : a = b := by
  obtain ⟨a1, a2⟩ := a; obtain ⟨b1, b2⟩ := b
  simp only [lsE, List.cons.injEq, V.agg.injEq, and_true] at h
  rw [ints_inj _ _ h.1, Sp.row_inj _ _ h.2]
theorem lsE_dec (l : List Int) (s : Sp) : decC lsE [.sl 1 (l.map ri), .agg [.int .i64 s.lo, .int .i64 s.hi]] = (l, s) := decC_eq lsE_inj (l, s)
def lieB (l : List Int) (s : Sp) : Bool := decide (l.getD 0 0 ≤ s.lo) && decide (s.hi ≤ l.getD (l.length - 1) 0)
noncomputable abbrev lieS : PSpec := mkP lsE (fun d => 0 < d.1.length ∧ d.1.length ≤ 1000000) fun d => .bool (lieB d.1 d.2)
noncomputable abbrev E73 : Env := { P := Tryz.prog, fn := tbl [], own := [], key := 7300, nt := 22 }
theorem b73 : PureBody E73 [] Tryz.f73 lieS := by
  refine pb ?_
  rintro ⟨l, s⟩ ⟨h0, hl⟩
  simp only at h0 hl
  obtain ⟨x, hx, hx'⟩ := get_ex h0
  have hm : l.length - 1 < l.length := by omega
  obtain ⟨y, hy, hy'⟩ := get_ex hm
  have gx : l.getD 0 0 = x := by simp [List.getD, hx]
  have gy : l.getD (l.length - 1) 0 = y := by simp [List.getD, hy]
  have wl : IntKind.wrap .i64 ((l.length : Int) - 1) = (l.length - 1 : Nat) := by rw [wrap_id (by omega) (by omega)]; omega
  have hz : lieB l s = (decide (x ≤ s.lo) && decide (s.hi ≤ y)) := by rw [lieB, gx, gy]
  by_cases h1 : x ≤ s.lo
  · simp -dsimp [Tryz.f73, E73, Sp.row]
    repeat' (first | omega | (simp -dsimp [E73, ri, cellp, ints, h0, hl, hx, hx', hm, hy, hy', wl, hz, h1, Sp.row]) | (refine Also.intro ?_ fun _ => ?_) | (refine Hold.intro fun _ => ?_) | (refine And.intro ?_ ?_))
  · simp -dsimp [Tryz.f73, E73, Sp.row]
    repeat' (first | omega | (simp -dsimp [E73, ri, cellp, ints, h0, hl, hx, hx', hm, hy, hy', wl, hz, h1, Sp.row]) | (refine Also.intro ?_ fun _ => ?_) | (refine Hold.intro fun _ => ?_) | (refine And.intro ?_ ?_))
theorem ok73 : FnOK Tryz.prog 73 (.pure lieS) := pure_fn (E := E73) rfl LOK.nil (ok := []) (fn := Tryz.f73) (by kernel_rfl) (by kernel_rfl) (by kernel_rfl) (by kernel_rfl) rfl (fun _ _ => by simp) b73
end Go.Sx.Tab
end
section
/- Tables: the search in an axis, fractions. No conditions. -/
set_option linter.unusedSimpArgs false
set_option linter.unusedSectionVars false
set_option maxRecDepth 100000
set_option maxHeartbeats 4000000
namespace Go.Sx.Tab
open Go.Proofs Go.Sx
attribute [local irreducible] HLe
attribute [local simp] hps_app

@[simp] def i2E (d : Int × Int) : List V := [.int .i64 d.1, .int .i64 d.2]
theorem i2E_inj (a b : Int × Int) (h : i2E a = i2E b) : a = b := by
  simp only [i2E, List.cons.injEq, V.int.injEq, true_and, and_true] at h
  exact Prod.ext h.1 h.2
theorem i2E_dec (a b : Int) : decC i2E [.int .i64 a, .int .i64 b] = (a, b) := decC_eq i2E_inj (a, b)
noncomputable abbrev nanS : PSpec := mkP i1E (fun _ => True) fun _ => .bool false
noncomputable abbrev lssS : PSpec := mkP i2E (fun _ => True) fun d => .bool (decide (d.1 < d.2))
noncomputable abbrev E132 : Env := { P := Tryz.prog, fn := tbl [], own := [], key := 13200, nt := 6 }
theorem b132 : PureBody E132 [] Tryz.f132 nanS := by
  refine pb ?_
  rintro n _
  simp -dsimp [Tryz.f132, E132]
theorem ok132 : FnOK Tryz.prog 132 (.pure nanS) := pure_fn (E := E132) rfl LOK.nil (ok := []) (fn := Tryz.f132) (by kernel_rfl) (by kernel_rfl) (by kernel_rfl) (by kernel_rfl) rfl (fun _ _ => by simp) b132
noncomputable abbrev E144 : Env := { P := Tryz.prog, fn := tbl [], own := [], key := 14400, nt := 6 }
theorem b144 : PureBody E144 [] Tryz.f144 nanS := by
  refine pb ?_
  rintro n _
  simp -dsimp [Tryz.f144, E144]
theorem ok144 : FnOK Tryz.prog 144 (.pure nanS) := pure_fn (E := E144) rfl LOK.nil (ok := []) (fn := Tryz.f144) (by kernel_rfl) (by kernel_rfl) (by kernel_rfl) (by kernel_rfl) rfl (fun _ _ => by simp) b144
noncomputable abbrev E101 : Env := { P := Tryz.prog, fn := tbl [(132, .pure nanS)], own := [], key := 10100, nt := 17 }
theorem b101 : PureBody E101 [] Tryz.f101 lssS := by
  refine pb ?_
  rintro ⟨a, b⟩ _
  simp -dsimp [Tryz.f101, E101]
  repeat' (first | omega | (simp -dsimp [E101, ri, cellp, ints, i1E_dec]) | (refine Also.intro ?_ fun _ => ?_) | (refine Hold.intro fun _ => ?_) | (refine And.intro ?_ ?_))
theorem ok101 : FnOK Tryz.prog 101 (.pure lssS) := pure_fn (E := E101) rfl (.cons ok132 .nil) (ok := []) (fn := Tryz.f101) (by kernel_rfl) (by kernel_rfl) (by kernel_rfl) (by kernel_rfl) rfl (fun _ _ => by simp) b101

/-! the search -/
theorem hsh (n : Nat) (hn : n < 4611686018427387904) : shrV .u64 (n : Int) 1 = (n / 2 : Nat) := by
  have e : min (1 : Int).toNat IntKind.u64.bits = 1 := rfl
  rw [shrV, e, Int.fdiv_eq_ediv_of_nonneg _ (by decide)]
  omega
@[simp] def bsE (d : List Int × Int) : List V := [ints d.1, .int .i64 d.2]
theorem bsE_inj (a b : List Int × Int) (h : bsE a = bsE b) : a = b := by
  obtain ⟨a1, a2⟩ := a; obtain ⟨b1, b2⟩ := b
  simp only [bsE, List.cons.injEq, V.int.injEq, true_and, and_true] at h
  rw [ints_inj _ _ h.1, h.2]
theorem bsE_dec (l : List Int) (x : Int) : decC bsE [.sl 1 (l.map ri), .int .i64 x] = (l, x) := decC_eq bsE_inj (l, x)
def bsN (l : List Int) (x : Int) : Nat := l.findIdx fun y => decide (x ≤ y)
theorem bsN_eq {l : List Int} {x : Int} {i : Nat} (hi : i ≤ l.length) (lo : ∀ t, t < i → l.getD t 0 < x) (hl : ∀ t, i ≤ t → t < l.length → x ≤ l.getD t 0) : bsN l x = i := by
  unfold bsN
  by_cases h : i < l.length
  · rw [List.findIdx_eq h]
    refine ⟨?_, fun j hj => ?_⟩
    · have := hl i (Nat.le_refl _) h
      simpa [List.getD, h] using this
    · have := lo j hj
      have hj2 : j < l.length := by omega
      simp only [List.getD, List.getElem?_eq_getElem hj2, Option.getD_some] at this
      simp; omega
  · have : i = l.length := by omega
    subst this
    rw [List.findIdx_eq_length]
    intro y hy
    obtain ⟨j, hj, rfl⟩ := List.getElem_of_mem hy
    have := lo j hj
    simp only [List.getD, List.getElem?_eq_getElem hj, Option.getD_some] at this
    simp; omega
def bsF (l : List Int) (x : Int) : Bool := decide (bsN l x < l.length ∧ l.getD (bsN l x) 0 = x)
structure BsP (d : List Int × Int) : Prop where
  n : d.1.length ≤ 1000000
  s : ∀ i j, i ≤ j → j < d.1.length → d.1.getD i 0 ≤ d.1.getD j 0
noncomputable abbrev bsS : PSpec := mkP bsE BsP fun d => .tup [.int .i64 (bsN d.1 d.2 : Nat), .bool (bsF d.1 d.2)]
structure BsI (l : List Int) (x : Int) where
  i : Nat
  j : Nat
  ij : i ≤ j
  jl : j ≤ l.length
  lo : ∀ t, t < i → l.getD t 0 < x
  hi : ∀ t, j ≤ t → t < l.length → x ≤ l.getD t 0
noncomputable abbrev E143 : Env := { P := Tryz.prog, fn := tbl [(101, .pure lssS), (144, .pure nanS)], own := [], key := 14300, nt := 54 }
theorem b143 : PureBody E143 [] Tryz.f143 bsS := by
  refine pb ?_
  rintro ⟨l, x⟩ ⟨hl, hs⟩
  simp only at hl hs
  simp -dsimp [Tryz.f143, E143]
  repeat' (first | omega | (simp -dsimp [E143, ri, cellp, ints, hl]) | (refine Also.intro ?_ fun _ => ?_) | (refine Hold.intro fun _ => ?_) | (refine And.intro ?_ ?_))
  refine awp_loop [13, 14, 15, 16, 17, 18, 19, 20, 21, 9, 22, 23, 24, 25, 26, 27, 28, 29, 7, 30, 8] (fun s : BsI l x => [(7, (true, .int .i64 (s.i : Nat))), (8, (true, .int .i64 (s.j : Nat)))]) (fun _ => noH) (fun s => s.j - s.i) ⟨0, l.length, by omega, by omega, fun _ h => by omega, fun _ h1 h2 => by omega⟩ ?_ (HLe.refl _) ?_
  · simp [okAll, okv]
  rintro ⟨i, j, ij, jl, lo, hi⟩
  simp only
  by_cases hlt : i < j
  · have hlti : ((i : Int) < j) = True := eq_true (by omega)
    have e1 : IntKind.wrap .i64 ((i : Int) + j) = (i : Int) + j := wrap_id (by omega) (by omega)
    have e2 : IntKind.wrap .u64 ((i : Int) + j) = (i : Int) + j := by simp [IntKind.wrap, IntKind.bits, IntKind.signed]; omega
    obtain ⟨h, hh⟩ : ∃ h, (i + j) / 2 = h := ⟨_, rfl⟩
    have e3 : shrV .u64 ((i : Int) + j) 1 = (h : Int) := by rw [show (i : Int) + j = ((i + j : Nat) : Int) by omega, hsh (i + j) (by omega), hh]
    have e4 : IntKind.wrap .i64 (h : Int) = h := wrap_id (by omega) (by omega)
    have e5 : IntKind.wrap .i64 ((h : Int) + 1) = (h : Int) + 1 := wrap_id (by omega) (by omega)
    have hM : IntKind.wrap .i64 (shrV .u64 (IntKind.wrap .u64 ((i : Int) + j)) 1) = (h : Int) := by rw [e2, e3, e4]
    have hhl : h < l.length := by omega
    obtain ⟨y, hy, hy'⟩ := get_ex hhl
    have gy : l.getD h 0 = y := by simp [List.getD, hy]
    by_cases hxy : y < x
    · simp -dsimp [hlti]
      repeat' (first | omega | (simp -dsimp [E143, ri, cellp, ints, hlti, e1, hM, e5, hhl, hy, hy', i2E_dec, hxy]) | (refine Also.intro ?_ fun _ => ?_) | (refine Hold.intro fun _ => ?_) | (refine And.intro ?_ ?_))
      refine ⟨⟨h + 1, j, by omega, jl, fun t ht => ?_, hi⟩, tle_chain rfl ?_, HLe.refl _, by simp only; omega⟩
      · have := hs t h (by omega) hhl; omega
      · simp [okAll, okv]
    · have hxy' : (y < x) = False := eq_false hxy
      simp -dsimp [hlti]
      repeat' (first | omega | (simp -dsimp [E143, ri, cellp, ints, hlti, e1, hM, e5, hhl, hy, hy', i2E_dec, hxy']) | (refine Also.intro ?_ fun _ => ?_) | (refine Hold.intro fun _ => ?_) | (refine And.intro ?_ ?_))
      refine ⟨⟨i, h, by omega, by omega, lo, fun t ht htl => ?_⟩, tle_chain rfl ?_, HLe.refl _, by simp only; omega⟩
      · have := hs h t ht htl; omega
      · simp [okAll, okv]
  · have hie : i = j := by omega
    subst hie
    have hn := bsN_eq jl lo hi
    have hlti : ((i : Int) < i) = False := eq_false (by omega)
    by_cases hil : i < l.length
    · have hili : ((i : Int) < l.length) = True := eq_true (by omega)
      obtain ⟨y, hy, hy'⟩ := get_ex hil
      have hf : bsF l x = decide (y = x) := by simp [bsF, hn, hil, List.getD, hy, hy']
      by_cases hyx : y = x
      · have hf' : bsF l x = true := by rw [hf]; simp [hyx]
        simp -dsimp [hlti]
        repeat' (first | omega | (simp -dsimp [E143, ri, cellp, ints, hlti, hili, hil, hy, hy', hyx, hn, hf', i1E_dec]) | (refine Also.intro ?_ fun _ => ?_) | (refine Hold.intro fun _ => ?_) | (refine And.intro ?_ ?_))
      · have hyx' : (y = x) = False := eq_false hyx
        have hf' : bsF l x = false := by rw [hf]; simp [hyx]
        simp -dsimp [hlti]
        repeat' (first | omega | (simp -dsimp [E143, ri, cellp, ints, hlti, hili, hil, hy, hy', hyx', hn, hf', i1E_dec]) | (refine Also.intro ?_ fun _ => ?_) | (refine Hold.intro fun _ => ?_) | (refine And.intro ?_ ?_))
    · have hili : ((i : Int) < l.length) = False := eq_false (by omega)
      have hf' : bsF l x = false := by simp [bsF, hn, hil]
      simp -dsimp [hlti]
      repeat' (first | omega | (simp -dsimp [E143, ri, cellp, ints, hlti, hili, hil, hn, hf', i1E_dec]) | (refine Also.intro ?_ fun _ => ?_) | (refine Hold.intro fun _ => ?_) | (refine And.intro ?_ ?_))
theorem ok143 : FnOK Tryz.prog 143 (.pure bsS) := pure_fn (E := E143) rfl (.cons ok101 (.cons ok144 .nil)) (ok := []) (fn := Tryz.f143) (by kernel_rfl) (by kernel_rfl) (by kernel_rfl) (by kernel_rfl) rfl (fun _ _ => by simp) b143
/-- The part of an axis where a number lies. -/
def celN (l : List Int) (x : Int) : Nat := bsN ((l.drop 1).take (l.length - 2)) x
theorem axB_asc {l : List Int} (h : axB l = true) : asc l := by
  intro i hi
  simp only [axB, Bool.and_eq_true, List.all_eq_true] at h
  have := h.2 (i + 1) (by simpa using hi)
  simp only [axAt, Bool.and_eq_true, Bool.or_eq_true, decide_eq_true_eq, Nat.add_sub_cancel] at this
  rcases this.2 with h1 | h1
  · omega
  · have : 1 ≤ l.getD (i + 1) 0 - l.getD i 0 ∧ l.getD (i + 1) 0 - l.getD i 0 ≤ 10000 := by simpa [withinB] using h1
    omega
theorem inner_getD {l : List Int} {i : Nat} (hi : i < l.length - 2) : ((l.drop 1).take (l.length - 2)).getD i 0 = l.getD (i + 1) 0 := by
  simp only [List.getD]
  rw [List.getElem?_take_of_lt hi, List.getElem?_drop, Nat.add_comm 1 i]
theorem inner_len {l : List Int} (h : 2 ≤ l.length) : ((l.drop 1).take (l.length - 2)).length = l.length - 2 := by simp; omega
theorem bsN_le (l : List Int) (x : Int) : bsN l x ≤ l.length := List.findIdx_le_length
theorem celN_lt {l : List Int} (h : 2 ≤ l.length) (x : Int) : celN l x + 1 < l.length := by
  have := bsN_le ((l.drop 1).take (l.length - 2)) x
  rw [inner_len h] at this
  unfold celN; omega
noncomputable abbrev celS : PSpec := mkP bsE (fun d => axB d.1 = true) fun d => .int .i64 (celN d.1 d.2 : Nat)
noncomputable abbrev E141 : Env := { P := Tryz.prog, fn := tbl [(143, .pure bsS)], own := [], key := 14100, nt := 18 }
theorem b141 : PureBody E141 [] Tryz.f141 celS := by
  refine pb ?_
  rintro ⟨l, x⟩ hax
  have hax : axB l = true := hax
  have hl := axB_len hax
  have hasc := axB_asc hax
  have wl : IntKind.wrap .i64 ((l.length : Int) - 1) = (l.length - 1 : Nat) := by rw [wrap_id (by omega) (by omega)]; omega
  have hP : BsP ((l.drop 1).take (l.length - 2), x) := ⟨by simp only; rw [inner_len hl.1]; omega, fun i j hij hj => by
    simp only at hj ⊢
    rw [inner_len hl.1] at hj
    rw [inner_getD (by omega), inner_getD (by omega)]
    exact asc_le hasc (by omega) (by omega)⟩
  have hd := bsE_dec ((l.drop 1).take (l.length - 2)) x
  have hm : List.take (l.length - 1 - 1) (l.map ri).tail = ((l.drop 1).take (l.length - 2)).map ri := by
    rw [show (l.map ri).tail = (l.drop 1).map ri by simp, ← List.map_take, show l.length - 1 - 1 = l.length - 2 by omega]
  have hc : celN l x = bsN ((l.drop 1).take (l.length - 2)) x := rfl
  generalize (l.drop 1).take (l.length - 2) = T at *
  simp -dsimp [Tryz.f141, E141]
  repeat' (first | omega | (simp -dsimp [E141, ri, cellp, ints, hl, wl, hP, hd, hm, hc]) | (refine Also.intro ?_ fun _ => ?_) | (refine Hold.intro fun _ => ?_) | (refine And.intro ?_ ?_))
theorem ok141 : FnOK Tryz.prog 141 (.pure celS) := pure_fn (E := E141) rfl (.cons ok143 .nil) (ok := []) (fn := Tryz.f141) (by kernel_rfl) (by kernel_rfl) (by kernel_rfl) (by kernel_rfl) rfl (fun _ _ => by simp) b141
end Go.Sx.Tab
end
