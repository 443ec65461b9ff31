/- A part of a proof; no conditions. -/
import Derived.Test.YtomgmojjdgiieaaGreatP21
set_option linter.unusedSimpArgs false
set_option linter.unusedVariables false
set_option linter.unusedSectionVars false
section
/- Parts: the program's pages. No conditions. -/
set_option linter.unusedSimpArgs false
set_option linter.unusedSectionVars false
set_option maxRecDepth 100000
set_option maxHeartbeats 2000000
namespace Go.Sx
open Go.Proofs
attribute [local irreducible] HLe
@[simp] def spE (f : Sp) : List V := [.agg f.row]
theorem spE_inj (a b : Sp) (h : spE a = spE b) : a = b := Sp.row_inj _ _ (by simpa using h)
theorem spE_dec (f : Sp) : decC spE [.agg [.int .i64 f.lo, .int .i64 f.hi]] = f := decC_eq spE_inj f
noncomputable abbrev E71 : Env := { P := Tryz.prog, fn := tbl [], own := [], key := 7100, nt := 15 }
theorem b71 : PureBody E71 [] Tryz.f71 withinS := by
  refine pb ?_
  rintro ⟨n, a, b⟩ _
  simp -dsimp [Tryz.f71, E71, withinB]
  repeat' (first | omega | (simp -dsimp [E71, ri, cellp, ints, *]) | (refine Also.intro ?_ fun _ => ?_) | (refine Hold.intro fun _ => ?_) | (refine And.intro ?_ ?_))
theorem ok71 : FnOK Tryz.prog 71 (.pure withinS) := pure_fn (E := E71) rfl LOK.nil (ok := []) (fn := Tryz.f71) (by kernel_rfl) (by kernel_rfl) (by kernel_rfl) (by kernel_rfl) rfl (fun _ _ => by simp) b71
def spN (f : Sp) : Bool := !(withinB f.lo (-1000000) f.hi && decide (f.hi ≤ 1000000))
noncomputable abbrev spvS : PSpec := mkP spE (fun _ => True) fun f => .bool (!spN f)
noncomputable abbrev spnS : PSpec := mkP spE (fun _ => True) fun f => .bool (spN f)
noncomputable abbrev E105 : Env := { P := Tryz.prog, fn := tbl [(71, .pure withinS)], own := [], key := 10500, nt := 13 }
theorem b105 : PureBody E105 [] Tryz.f105 spvS := by
  refine pb ?_
  rintro f _
  simp -dsimp [Tryz.f105, E105, Sp.row, spN]
  repeat' (first | omega | (simp -dsimp [E105, ri, cellp, ints, Sp.row, spN]) | (refine Also.intro ?_ fun _ => ?_) | (refine Hold.intro fun _ => ?_) | (refine And.intro ?_ ?_))
theorem ok105 : FnOK Tryz.prog 105 (.pure spvS) := pure_fn (E := E105) rfl (.cons ok71 .nil) (ok := []) (fn := Tryz.f105) (by kernel_rfl) (by kernel_rfl) (by kernel_rfl) (by kernel_rfl) rfl (fun _ _ => by simp) b105
noncomputable abbrev E104 : Env := { P := Tryz.prog, fn := tbl [(105, .pure spvS)], own := [], key := 10400, nt := 6 }
theorem b104 : PureBody E104 [] Tryz.f104 spnS := by
  refine pb ?_
  rintro f _
  simp -dsimp [Tryz.f104, E104, Sp.row]
  repeat' (first | omega | (simp -dsimp [E104, ri, cellp, ints, Sp.row, spE_dec]) | (refine Also.intro ?_ fun _ => ?_) | (refine Hold.intro fun _ => ?_) | (refine And.intro ?_ ?_))
theorem ok104 : FnOK Tryz.prog 104 (.pure spnS) := pure_fn (E := E104) rfl (.cons ok105 .nil) (ok := []) (fn := Tryz.f104) (by kernel_rfl) (by kernel_rfl) (by kernel_rfl) (by kernel_rfl) rfl (fun _ _ => by simp) b104
@[simp] def spssE (d : List Sp) : List V := [.sl 2 (d.map Sp.row), .fn 104 []]
theorem spssE_inj (a b : List Sp) (h : spssE a = spssE b) : a = b := by
  simp only [spssE, List.cons.injEq, V.sl.injEq, true_and, and_true] at h
  exact mapRow_inj Sp.row_inj h
theorem spssE_dec (l : List Sp) : decC spssE [.sl 2 (l.map Sp.row), .fn 104 []] = l := decC_eq spssE_inj l
noncomputable abbrev spsixS : PSpec := mkP spssE (fun d => d.length ≤ 1000000) fun d => .int .i64 (idxZ d spN)
noncomputable abbrev spsanS : PSpec := mkP spssE (fun d => d.length ≤ 1000000) fun d => .bool (d.any spN)
noncomputable abbrev E85 : Env := { P := Tryz.prog, fn := tbl [(104, .pure spnS)], own := [], key := 8500, nt := 19 }
theorem b85 : PureBody E85 [] Tryz.f85 spsixS := by
  refine pb ?_
  rintro l hl
  have hl : l.length ≤ 1000000 := hl
  simp -dsimp [Tryz.f85, E85]
  refine awp_loop [9, 10, 5, 11, 12, 13, 14, 15, 16, 17, 4, 18, 8] (fun k : { k : Nat // k ≤ l.length ∧ ∀ j (h : j < l.length), j < k → spN l[j] = false } => [(8, (true, .int .i64 k.1))]) (fun _ => noH) (fun k => l.length - k.1) ⟨0, by omega, fun _ _ h => by omega⟩ ?_ (HLe.refl _) ?_
  · simp [okAll, okv]
  rintro ⟨k, hk, hall⟩
  by_cases hk1 : k < l.length
  · have hki : (k : Int) < l.length := by omega
    have wk : IntKind.wrap .i64 ((k : Int) + 1) = (k + 1 : Nat) := wrap_id (by omega) (by omega)
    cases hw : spN l[k]
    · simp -dsimp [hki]
      repeat' (first | omega | (simp -dsimp [E85, ri, cellp, ints, hki, hk1, hl, hw, wk, Sp.row, spE_dec]) | (refine Also.intro ?_ fun _ => ?_) | (refine Hold.intro fun _ => ?_) | (refine And.intro ?_ ?_))
      refine ⟨k + 1, tle_chain rfl ?_, HLe.refl _, ⟨by omega, fun j h hj => ?_⟩, by omega⟩
      · simp [okAll, okv]
      · by_cases hjk : j = k
        · subst hjk; exact hw
        · exact hall j h (by omega)
    · have hz := idxZ_at l spN hk1 hw hall
      simp -dsimp [hki]
      repeat' (first | omega | (simp -dsimp [E85, ri, cellp, ints, hki, hk1, hl, hw, wk, hz, Sp.row, spE_dec]) | (refine Also.intro ?_ fun _ => ?_) | (refine Hold.intro fun _ => ?_) | (refine And.intro ?_ ?_))
  · have hkn : ¬ (k : Int) < l.length := by omega
    have hz := idxZ_none l spN (fun j h => hall j h (by omega))
    simp -dsimp [hkn]
    repeat' (first | omega | (simp -dsimp [E85, ri, cellp, ints, hkn, hz]) | (refine Also.intro ?_ fun _ => ?_) | (refine Hold.intro fun _ => ?_) | (refine And.intro ?_ ?_))
theorem ok85 : FnOK Tryz.prog 85 (.pure spsixS) := pure_fn (E := E85) rfl (.cons ok104 .nil) (ok := []) (fn := Tryz.f85) (by kernel_rfl) (by kernel_rfl) (by kernel_rfl) (by kernel_rfl) rfl (fun _ _ => by simp) b85
noncomputable abbrev E51 : Env := { P := Tryz.prog, fn := tbl [(85, .pure spsixS)], own := [], key := 5100, nt := 9 }
theorem b51 : PureBody E51 [] Tryz.f51 spsanS := by
  refine pb ?_
  rintro l hl
  have hl : l.length ≤ 1000000 := hl
  have hz := idxZ_any l spN
  simp -dsimp [Tryz.f51, E51]
  repeat' (first | omega | (simp -dsimp [E51, ri, cellp, ints, hl, spssE_dec, hz]) | (refine Also.intro ?_ fun _ => ?_) | (refine Hold.intro fun _ => ?_) | (refine And.intro ?_ ?_))
theorem ok51 : FnOK Tryz.prog 51 (.pure spsanS) := pure_fn (E := E51) rfl (.cons ok85 .nil) (ok := []) (fn := Tryz.f51) (by kernel_rfl) (by kernel_rfl) (by kernel_rfl) (by kernel_rfl) rfl (fun _ _ => by simp) b51
@[simp] def slE (d : List Sp) : List V := [.sl 2 (d.map Sp.row)]
theorem slE_inj (a b : List Sp) (h : slE a = slE b) : a = b := by
  simp only [slE, List.cons.injEq, V.sl.injEq, true_and, and_true] at h
  exact mapRow_inj Sp.row_inj h
theorem slE_dec (l : List Sp) : decC slE [.sl 2 (l.map Sp.row)] = l := decC_eq slE_inj l
theorem slE_dec1 (f : Sp) : decC slE [.sl 2 [[.int .i64 f.lo, .int .i64 f.hi]]] = [f] := decC_eq slE_inj [f]
noncomputable abbrev spdS : PSpec := mkP slE (fun d => d.length ≤ 1000000) fun d => .int .i64 (if d.any spN = true then 10 else 0)
noncomputable abbrev E66 : Env := { P := Tryz.prog, fn := tbl [(51, .pure spsanS)], own := [], key := 6600, nt := 5 }
theorem b66 : PureBody E66 [] Tryz.f66 spdS := by
  refine pb ?_
  rintro l hl
  have hl : l.length ≤ 1000000 := hl
  generalize h1 : l.any spN = b
  cases b
  · simp -dsimp [Tryz.f66, E66]
    repeat' (first | omega | (simp -dsimp [E66, ri, cellp, ints, hl, h1, spssE_dec]) | (refine Also.intro ?_ fun _ => ?_) | (refine Hold.intro fun _ => ?_) | (refine And.intro ?_ ?_))
  · simp -dsimp [Tryz.f66, E66]
    repeat' (first | omega | (simp -dsimp [E66, ri, cellp, ints, hl, h1, spssE_dec]) | (refine Also.intro ?_ fun _ => ?_) | (refine Hold.intro fun _ => ?_) | (refine And.intro ?_ ?_))
theorem ok66 : FnOK Tryz.prog 66 (.pure spdS) := pure_fn (E := E66) rfl (.cons ok51 .nil) (ok := []) (fn := Tryz.f66) (by kernel_rfl) (by kernel_rfl) (by kernel_rfl) (by kernel_rfl) rfl (fun _ _ => by simp) b66
noncomputable abbrev bxkS : PSpec := mkP slE (fun d => d.length ≤ 1000000) fun d => .int .i64 (if withinB d.length 1 3 = true ∧ d.any spN = false then 0 else 10)
end Go.Sx
end
section
/- Tables: between its knots a table is bilinear; what it has on a part of a box lies within what it has on the box. No conditions. -/
set_option linter.unusedSimpArgs false
set_option linter.unusedSectionVars false
namespace Go.Sx
structure Tb where
  xs : List Int
  ys : List Int
  vs : List (List Int)
deriving Inhabited
def asc (l : List Int) : Prop := ∀ i, i + 1 < l.length → l.getD i 0 < l.getD (i + 1) 0
theorem asc_lt {l : List Int} (h : asc l) {i k : Nat} (hik : i < k) (hk : k < l.length) : l.getD i 0 < l.getD k 0 := by
  induction k with
  | zero => omega
  | succ k ih =>
    have h1 := h k (by omega)
    by_cases e : i = k
    · subst e; exact h1
    · have := ih (by omega) (by omega); omega
theorem asc_le {l : List Int} (h : asc l) {i k : Nat} (hik : i ≤ k) (hk : k < l.length) : l.getD i 0 ≤ l.getD k 0 := by
  by_cases e : i = k
  · subst e; exact Int.le_refl _
  · exact Int.le_of_lt (asc_lt h (by omega) hk)
def inC (l : List Int) (i : Nat) (x : Int) : Prop := i + 1 < l.length ∧ l.getD i 0 ≤ x ∧ x ≤ l.getD (i + 1) 0
theorem inC_near {l : List Int} (h : asc l) {i k : Nat} {x : Int} (hi : inC l i x) (hk : inC l k x) (hik : i < k) : k = i + 1 ∧ x = l.getD k 0 := by
  obtain ⟨a1, a2, a3⟩ := hi; obtain ⟨b1, b2, b3⟩ := hk
  have h1 := asc_le h (show i + 1 ≤ k by omega) (by omega)
  have h2 : l.getD (i + 1) 0 = l.getD k 0 := by omega
  by_cases e : k = i + 1
  · subst e; exact ⟨rfl, by omega⟩
  · have := asc_lt h (show i + 1 < k by omega) (by omega); omega
def Tb.v (t : Tb) (i k : Nat) : Int := (t.vs.getD i []).getD k 0
def Tb.num (t : Tb) (i k : Nat) (x y : Int) : Int :=
  (t.xs.getD (i + 1) 0 - x) * (t.ys.getD (k + 1) 0 - y) * t.v i k + (x - t.xs.getD i 0) * (t.ys.getD (k + 1) 0 - y) * t.v (i + 1) k
    + (t.xs.getD (i + 1) 0 - x) * (y - t.ys.getD k 0) * t.v i (k + 1) + (x - t.xs.getD i 0) * (y - t.ys.getD k 0) * t.v (i + 1) (k + 1)
def Tb.den (t : Tb) (i k : Nat) : Int := (t.xs.getD (i + 1) 0 - t.xs.getD i 0) * (t.ys.getD (k + 1) 0 - t.ys.getD k 0)
theorem mul_le_of {a x y : Int} (h : 0 ≤ a) (hxy : x ≤ y) : a * x ≤ a * y := Int.mul_le_mul_of_nonneg_left hxy h
theorem le_of_mul {a x y : Int} (h : 0 < a) (hxy : a * x ≤ a * y) : x ≤ y := Int.le_of_mul_le_mul_left hxy h
theorem lin_nonneg {a b l h x : Int} (hl : l ≤ x) (hh : x ≤ h) (h1 : 0 ≤ a + b * l) (h2 : 0 ≤ a + b * h) : 0 ≤ a + b * x := by
  by_cases hb : 0 ≤ b
  · have := mul_le_of hb hl; omega
  · have := mul_le_of (show 0 ≤ -b by omega) hh
    rw [Int.neg_mul, Int.neg_mul] at this; omega
def Tb.ge (t : Tb) (L : Int) (x y : Int) : Prop := ∀ i k, inC t.xs i x → inC t.ys k y → L * t.den i k ≤ t.num i k x y
theorem inC_pos {l : List Int} (h : asc l) {i : Nat} {x : Int} (hi : inC l i x) : 0 < l.getD (i + 1) 0 - l.getD i 0 := by
  have := h i hi.1; omega
theorem Tb.den_pos {t : Tb} (hx : asc t.xs) (hy : asc t.ys) {i k : Nat} {x y : Int} (hi : inC t.xs i x) (hk : inC t.ys k y) : 0 < t.den i k :=
  Int.mul_pos (inC_pos hx hi) (inC_pos hy hk)
theorem Tb.same_x {t : Tb} (hx : asc t.xs) {i k : Nat} {x y : Int} (hi : inC t.xs i x) (hi' : inC t.xs (i + 1) x) : t.num i k x y * t.den (i + 1) k = t.num (i + 1) k x y * t.den i k := by
  have e := (inC_near hx hi hi' (by omega)).2
  subst e
  unfold Tb.num Tb.den
  generalize t.xs.getD (i + 1 + 1) 0 = X2
  generalize t.xs.getD (i + 1) 0 = X1
  generalize t.xs.getD i 0 = X0
  generalize t.ys.getD (k + 1) 0 = Y1
  generalize t.ys.getD k 0 = Y0
  grind
theorem Tb.same_y {t : Tb} (hy : asc t.ys) {i k : Nat} {x y : Int} (hi : inC t.ys k y) (hi' : inC t.ys (k + 1) y) : t.num i k x y * t.den i (k + 1) = t.num i (k + 1) x y * t.den i k := by
  have e := (inC_near hy hi hi' (by omega)).2
  subst e
  unfold Tb.num Tb.den
  generalize t.ys.getD (k + 1 + 1) 0 = Y2
  generalize t.ys.getD (k + 1) 0 = Y1
  generalize t.ys.getD k 0 = Y0
  generalize t.xs.getD (i + 1) 0 = X1
  generalize t.xs.getD i 0 = X0
  grind
theorem Tb.same {t : Tb} (hx : asc t.xs) (hy : asc t.ys) {i k i' k' : Nat} {x y : Int} (hi : inC t.xs i x) (hk : inC t.ys k y) (hi' : inC t.xs i' x) (hk' : inC t.ys k' y) :
    t.num i k x y * t.den i' k' = t.num i' k' x y * t.den i k := by
  have sx : ∀ k, t.num i k x y * t.den i' k = t.num i' k x y * t.den i k := by
    intro k
    rcases Nat.lt_trichotomy i i' with h | h | h
    · obtain ⟨rfl, _⟩ := inC_near hx hi hi' h
      exact Tb.same_x hx hi hi'
    · subst h; rfl
    · obtain ⟨rfl, _⟩ := inC_near hx hi' hi h
      exact (Tb.same_x hx hi' hi).symm
  have sy : t.num i' k x y * t.den i' k' = t.num i' k' x y * t.den i' k := by
    rcases Nat.lt_trichotomy k k' with h | h | h
    · obtain ⟨rfl, _⟩ := inC_near hy hk hk' h
      exact Tb.same_y hy hk hk'
    · subst h; rfl
    · obtain ⟨rfl, _⟩ := inC_near hy hk' hk h
      exact (Tb.same_y hy hk' hk).symm
  have p1 := Tb.den_pos hx hy hi' hk
  have e1 := sx k
  have hc : t.den i' k * (t.num i k x y * t.den i' k') = t.den i' k * (t.num i' k' x y * t.den i k) := by
    have a1 : t.den i' k * (t.num i k x y * t.den i' k') = (t.num i k x y * t.den i' k) * t.den i' k' := by grind
    have a2 : t.den i' k * (t.num i' k' x y * t.den i k) = (t.num i' k' x y * t.den i' k) * t.den i k := by grind
    rw [a1, a2, e1, ← sy]; grind
  exact Int.eq_of_mul_eq_mul_left (by omega) hc
theorem Tb.ge_of {t : Tb} (hx : asc t.xs) (hy : asc t.ys) {L x y : Int} {i k : Nat} (hi : inC t.xs i x) (hk : inC t.ys k y) (h : L * t.den i k ≤ t.num i k x y) : t.ge L x y := by
  intro i' k' hi' hk'
  have e := Tb.same hx hy hi hk hi' hk'
  have p := Tb.den_pos hx hy hi hk
  have p' := Tb.den_pos hx hy hi' hk'
  have h1 := mul_le_of (Int.le_of_lt p') h
  refine le_of_mul p ?_
  have a1 : t.den i k * (L * t.den i' k') = t.den i' k' * (L * t.den i k) := by grind
  have a2 : t.den i k * t.num i' k' x y = t.num i' k' x y * t.den i k := Int.mul_comm _ _
  have a3 : t.den i' k' * t.num i k x y = t.num i k x y * t.den i' k' := Int.mul_comm _ _
  rw [a1, a2, ← e, ← a3]; exact h1
theorem Tb.ge_x {t : Tb} (hx : asc t.xs) (hy : asc t.ys) {L l h x y : Int} {i k : Nat} (hl : inC t.xs i l) (hh : inC t.xs i h) (hk : inC t.ys k y) (h1 : t.ge L l y) (h2 : t.ge L h y) (hlx : l ≤ x) (hxh : x ≤ h) : t.ge L x y := by
  have hi : inC t.xs i x := ⟨hl.1, by have := hl.2.1; omega, by have := hh.2.2; omega⟩
  refine Tb.ge_of hx hy hi hk ?_
  have a := h1 i k hl hk
  have b := h2 i k hh hk
  unfold Tb.num Tb.den at *
  generalize t.xs.getD (i + 1) 0 = X1 at *
  generalize t.xs.getD i 0 = X0 at *
  generalize t.ys.getD (k + 1) 0 = Y1 at *
  generalize t.ys.getD k 0 = Y0 at *
  generalize t.v i k = p at *
  generalize t.v (i + 1) k = q at *
  generalize t.v i (k + 1) = r at *
  generalize t.v (i + 1) (k + 1) = s at *
  have idn : ∀ z : Int, (X1 - z) * (Y1 - y) * p + (z - X0) * (Y1 - y) * q + (X1 - z) * (y - Y0) * r + (z - X0) * (y - Y0) * s - L * ((X1 - X0) * (Y1 - Y0))
      = (X1 * ((Y1 - y) * p + (y - Y0) * r - L * (Y1 - Y0)) - X0 * ((Y1 - y) * q + (y - Y0) * s - L * (Y1 - Y0))) + (((Y1 - y) * q + (y - Y0) * s - L * (Y1 - Y0)) - ((Y1 - y) * p + (y - Y0) * r - L * (Y1 - Y0))) * z := by
    intro z; grind
  have i1 := idn l; have i2 := idn h; have i3 := idn x
  have := lin_nonneg hlx hxh (a := X1 * ((Y1 - y) * p + (y - Y0) * r - L * (Y1 - Y0)) - X0 * ((Y1 - y) * q + (y - Y0) * s - L * (Y1 - Y0))) (b := ((Y1 - y) * q + (y - Y0) * s - L * (Y1 - Y0)) - ((Y1 - y) * p + (y - Y0) * r - L * (Y1 - Y0))) (by omega) (by omega)
  omega
theorem Tb.ge_y {t : Tb} (hx : asc t.xs) (hy : asc t.ys) {L l h x y : Int} {i k : Nat} (hl : inC t.ys k l) (hh : inC t.ys k h) (hi : inC t.xs i x) (h1 : t.ge L x l) (h2 : t.ge L x h) (hlx : l ≤ y) (hxh : y ≤ h) : t.ge L x y := by
  have hk : inC t.ys k y := ⟨hl.1, by have := hl.2.1; omega, by have := hh.2.2; omega⟩
  refine Tb.ge_of hx hy hi hk ?_
  have a := h1 i k hi hl
  have b := h2 i k hi hh
  unfold Tb.num Tb.den at *
  generalize t.xs.getD (i + 1) 0 = X1 at *
  generalize t.xs.getD i 0 = X0 at *
  generalize t.ys.getD (k + 1) 0 = Y1 at *
  generalize t.ys.getD k 0 = Y0 at *
  generalize t.v i k = p at *
  generalize t.v (i + 1) k = q at *
  generalize t.v i (k + 1) = r at *
  generalize t.v (i + 1) (k + 1) = s at *
  have idn : ∀ z : Int, (X1 - x) * (Y1 - z) * p + (x - X0) * (Y1 - z) * q + (X1 - x) * (z - Y0) * r + (x - X0) * (z - Y0) * s - L * ((X1 - X0) * (Y1 - Y0))
      = (Y1 * ((X1 - x) * p + (x - X0) * q - L * (X1 - X0)) - Y0 * ((X1 - x) * r + (x - X0) * s - L * (X1 - X0))) + (((X1 - x) * r + (x - X0) * s - L * (X1 - X0)) - ((X1 - x) * p + (x - X0) * q - L * (X1 - X0))) * z := by
    intro z; grind
  have i1 := idn l; have i2 := idn h; have i3 := idn y
  have := lin_nonneg hlx hxh (a := Y1 * ((X1 - x) * p + (x - X0) * q - L * (X1 - X0)) - Y0 * ((X1 - x) * r + (x - X0) * s - L * (X1 - X0))) (b := ((X1 - x) * r + (x - X0) * s - L * (X1 - X0)) - ((X1 - x) * p + (x - X0) * q - L * (X1 - X0))) (by omega) (by omega)
  omega
def stops (l : List Int) (a : Sp) : List Int := a.lo :: (l.filter fun x => decide (a.lo < x ∧ x < a.hi)) ++ if a.lo < a.hi then [a.hi] else []
def lies (l : List Int) (a : Sp) : Prop := l.getD 0 0 ≤ a.lo ∧ a.hi ≤ l.getD (l.length - 1) 0
theorem mem_stops {l : List Int} {a : Sp} {x : Int} (hlh : a.lo ≤ a.hi) : x ∈ stops l a ↔ x = a.lo ∨ x = a.hi ∨ (x ∈ l ∧ a.lo < x ∧ x < a.hi) := by
  unfold stops
  by_cases h : a.lo < a.hi
  · simp [h]; constructor
    · rintro (h | h | h)
      · exact .inl h
      · exact .inr (.inr h)
      · exact .inr (.inl h)
    · rintro (h | h | h)
      · exact .inl h
      · exact .inr (.inr h)
      · exact .inr (.inl h)
  · simp [h]; constructor
    · rintro (h | h)
      · exact .inl h
      · exact .inr (.inr h)
    · rintro (h | h | h)
      · exact .inl h
      · exact .inl (by omega)
      · exact .inr h
theorem stops_in {l : List Int} {a : Sp} {x : Int} (hlh : a.lo ≤ a.hi) (h : x ∈ stops l a) : a.lo ≤ x ∧ x ≤ a.hi := by
  rcases (mem_stops hlh).1 h with h | h | ⟨_, h⟩ <;> omega
theorem tbGet_mem {l : List Int} {i : Nat} (h : i < l.length) : l.getD i 0 ∈ l := by
  rw [show l.getD i 0 = l[i] by simp [List.getD, h]]
  exact List.getElem_mem h
theorem stops_near {l : List Int} (hA : asc l) {a : Sp} (hl : lies l a) {x : Int} {i : Nat} (hi : inC l i x) (h1 : a.lo ≤ x) (h2 : x ≤ a.hi) :
    ∃ p ∈ stops l a, ∃ q ∈ stops l a, inC l i p ∧ inC l i q ∧ p ≤ x ∧ x ≤ q := by
  obtain ⟨b1, b2, b3⟩ := hi
  have hlt := hA i b1
  have hlh : a.lo ≤ a.hi := by omega
  have hp : ∃ p ∈ stops l a, inC l i p ∧ p ≤ x := by
    by_cases h : a.lo < l.getD i 0
    · refine ⟨l.getD i 0, ?_, ⟨b1, by omega, by omega⟩, b2⟩
      rw [mem_stops hlh]
      by_cases e : l.getD i 0 = a.hi
      · exact .inr (.inl e)
      · exact .inr (.inr ⟨tbGet_mem (by omega), h, by omega⟩)
    · exact ⟨a.lo, (mem_stops hlh).2 (.inl rfl), ⟨b1, by omega, by omega⟩, h1⟩
  have hq : ∃ q ∈ stops l a, inC l i q ∧ x ≤ q := by
    by_cases h : l.getD (i + 1) 0 < a.hi
    · refine ⟨l.getD (i + 1) 0, ?_, ⟨b1, by omega, by omega⟩, b3⟩
      rw [mem_stops hlh]
      by_cases e : l.getD (i + 1) 0 = a.lo
      · exact .inl e
      · exact .inr (.inr ⟨tbGet_mem (by omega), by omega, h⟩)
    · exact ⟨a.hi, (mem_stops hlh).2 (.inr (.inl rfl)), ⟨b1, by omega, by omega⟩, h2⟩
  obtain ⟨p, p1, p2, p3⟩ := hp
  obtain ⟨q, q1, q2, q3⟩ := hq
  exact ⟨p, p1, q, q1, p2, q2, p3, q3⟩
theorem inC_ex {l : List Int} (h2 : 2 ≤ l.length) {x : Int} (h0 : l.getD 0 0 ≤ x) (h1 : x ≤ l.getD (l.length - 1) 0) : ∃ i, inC l i x := by
  suffices h : ∀ n, n + 1 ≤ l.length → 1 ≤ n → x ≤ l.getD n 0 → ∃ i, inC l i x from h (l.length - 1) (by omega) (by omega) h1
  intro n
  induction n with
  | zero => intro _ h _; omega
  | succ n ih =>
    intro hn _ hx
    by_cases hc : l.getD n 0 ≤ x
    · exact ⟨n, by omega, hc, hx⟩
    · by_cases e : n = 0
      · subst e; omega
      · exact ih (by omega) (by omega) (by omega)
theorem Tb.ge_box {t : Tb} (hx : asc t.xs) (hy : asc t.ys) (h2x : 2 ≤ t.xs.length) (h2y : 2 ≤ t.ys.length) {L : Int} {a b : Sp} (la : lies t.xs a) (lb : lies t.ys b)
    (h : ∀ p ∈ stops t.xs a, ∀ q ∈ stops t.ys b, t.ge L p q) {x y : Int} (hx1 : a.lo ≤ x) (hx2 : x ≤ a.hi) (hy1 : b.lo ≤ y) (hy2 : y ≤ b.hi) : t.ge L x y := by
  have hah : a.lo ≤ a.hi := by omega
  have hbh : b.lo ≤ b.hi := by omega
  obtain ⟨i, hi⟩ := inC_ex h2x (x := x) (by have := la.1; omega) (by have := la.2; omega)
  obtain ⟨k, hk⟩ := inC_ex h2y (x := y) (by have := lb.1; omega) (by have := lb.2; omega)
  have st : ∀ q ∈ stops t.ys b, t.ge L x q := by
    intro q hq
    have hqb := stops_in hbh hq
    obtain ⟨k', hk'⟩ := inC_ex h2y (x := q) (by have := lb.1; omega) (by have := lb.2; omega)
    obtain ⟨p, p1, p', p2, p3, p4, p5, p6⟩ := stops_near hx la hi hx1 hx2
    exact Tb.ge_x hx hy p3 p4 hk' (h p p1 q hq) (h p' p2 q hq) p5 p6
  obtain ⟨q, q1, q', q2, q3, q4, q5, q6⟩ := stops_near hy lb hk hy1 hy2
  exact Tb.ge_y hx hy q3 q4 hi (st q q1) (st q' q2) q5 q6
end Go.Sx
end
