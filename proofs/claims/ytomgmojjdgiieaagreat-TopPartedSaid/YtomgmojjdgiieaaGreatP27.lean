/- A part of a proof; no conditions. -/
import Derived.Test.YtomgmojjdgiieaaGreatP26
import Derived.Test.YtomgmojjdgiieaaGreatP22
set_option linter.unusedSimpArgs false
set_option linter.unusedVariables false
set_option linter.unusedSectionVars false
section
/- Rotor: tables whose values lie within limits. No conditions. -/
set_option linter.unusedSimpArgs false
set_option linter.unusedSectionVars false
set_option maxRecDepth 100000
set_option maxHeartbeats 4000000
namespace Go.Sx.Rot
open Go.Proofs Go.Sx Go.Sx.Tab
attribute [local irreducible] HLe
attribute [local simp] hps_app
noncomputable abbrev E84 : Env := { P := Tryz.prog, fn := tbl [], own := [], key := 8400, nt := 15 }
theorem b84 : PureBody E84 [] Tryz.f84 withinS := by
  refine pb ?_
  rintro ⟨n, a, b⟩ _
  simp -dsimp [Tryz.f84, E84, withinB]
  repeat' (first | omega | (simp -dsimp [E84, ri, cellp, ints, *]) | (refine Also.intro ?_ fun _ => ?_) | (refine Hold.intro fun _ => ?_) | (refine And.intro ?_ ?_))
theorem ok84 : FnOK Tryz.prog 84 (.pure withinS) := pure_fn (E := E84) rfl LOK.nil (ok := []) (fn := Tryz.f84) (by kernel_rfl) (by kernel_rfl) (by kernel_rfl) (by kernel_rfl) rfl (fun _ _ => by simp) b84
structure Lim where
  t : Tb
  lo : Int
  hi : Int
  deriving Inhabited
def Lim.row (l : Lim) : List V := [ints l.t.xs, ints l.t.ys, .sl 1 (l.t.vs.map rwI), .int .i64 l.lo, .int .i64 l.hi]
theorem Lim.row_inj (a b : Lim) (h : a.row = b.row) : a = b := by
  obtain ⟨a1, a2, a3⟩ := a; obtain ⟨b1, b2, b3⟩ := b
  simp only [Lim.row, List.cons.injEq, V.int.injEq, true_and, and_true] at h
  have := tabR_inj a1 b1 (by simp only [tabR, List.cons.injEq, and_true]; exact ⟨h.1, h.2.1, h.2.2.1⟩)
  rw [this, h.2.2.2.1, h.2.2.2.2]
def limI (l : Lim) : V := .ip 5 [l.row] 0 0
theorem limI_inj (a b : Lim) (h : limI a = limI b) : a = b := Lim.row_inj _ _ (by simpa [limI] using h)
@[simp] def byE (d : Int × Lim) : List V := [.int .i64 d.1, limI d.2]
theorem byE_inj (a b : Int × Lim) (h : byE a = byE b) : a = b := by
  obtain ⟨a1, a2⟩ := a; obtain ⟨b1, b2⟩ := b
  simp only [byE, List.cons.injEq, V.int.injEq, true_and, and_true] at h
  rw [h.1, limI_inj _ _ h.2]
theorem byE_dec (n : Int) (t : Tb) (a b : Int) : decC byE [.int .i64 n, .ip 5 [[.sl 1 (t.xs.map ri), .sl 1 (t.ys.map ri), .sl 1 (t.vs.map rwI), .int .i64 a, .int .i64 b]] 0 0] = (n, ⟨t, a, b⟩) := decC_eq byE_inj (n, ⟨t, a, b⟩)
def beyP (l : Lim) (n : Int) : Bool := !withinB n l.lo l.hi
noncomputable abbrev byS : PSpec := mkP byE (fun _ => True) fun d => .bool (beyP d.2 d.1)
noncomputable abbrev E115 : Env := { P := Tryz.prog, fn := tbl [(84, .pure withinS)], own := [], key := 11500, nt := 11 }
theorem b115 : PureBody E115 [] Tryz.f115 byS := by
  refine pb ?_
  rintro ⟨n, t, a, b⟩ _
  simp -dsimp [Tryz.f115, E115, limI, Lim.row, beyP]
  repeat' (first | omega | (simp -dsimp [E115, ri, cellp, ints, limI, Lim.row, beyP]) | (refine Also.intro ?_ fun _ => ?_) | (refine Hold.intro fun _ => ?_) | (refine And.intro ?_ ?_))
theorem ok115 : FnOK Tryz.prog 115 (.pure byS) := pure_fn (E := E115) rfl (.cons ok84 .nil) (ok := []) (fn := Tryz.f115) (by kernel_rfl) (by kernel_rfl) (by kernel_rfl) (by kernel_rfl) rfl (fun _ _ => by simp) b115
def beyF (l : Lim) : V := .fn 115 [limI l]
theorem beyF_inj (a b : Lim) (h : beyF a = beyF b) : a = b := limI_inj _ _ (by simpa [beyF] using h)
@[simp] def bnsE (d : Lim × List Int) : List V := [.sl 1 (d.2.map ri), beyF d.1]
theorem bnsE_inj (a b : Lim × List Int) (h : bnsE a = bnsE b) : a = b := by
  obtain ⟨a1, a2⟩ := a; obtain ⟨b1, b2⟩ := b
  simp only [bnsE, List.cons.injEq, V.sl.injEq, true_and, and_true] at h
  rw [mapRow_inj Tab.ri_inj h.1, beyF_inj _ _ h.2]
theorem bnsE_dec (q : Lim) (l : List Int) : decC bnsE [.sl 1 (l.map ri), beyF q] = (q, l) := decC_eq bnsE_inj (q, l)
structure bnsP (d : Lim × List Int) : Prop where
  l : d.2.length ≤ 1000000
  q : (fun q : Lim => True) d.1
noncomputable abbrev bnixS : PSpec := mkP bnsE bnsP fun d => .int .i64 (idxZ d.2 (beyP d.1))
noncomputable abbrev bnanS : PSpec := mkP bnsE bnsP fun d => .bool (d.2.any (beyP d.1))
noncomputable abbrev E119 : Env := { P := Tryz.prog, fn := tbl [(115, .pure byS)], own := [], key := 11900, nt := 19 }
theorem b119 : PureBody E119 [] Tryz.f119 bnixS := by
  refine pb ?_
  rintro ⟨q, l⟩ ⟨hl, hq⟩
  have hl : l.length ≤ 1000000 := hl
  try dsimp only at hq
  simp -dsimp [Tryz.f119, E119]
  refine awp_loop [9, 10, 5, 11, 12, 13, 14, 15, 16, 17, 4, 18, 8] (fun k : { k : Nat // k ≤ l.length ∧ ∀ j (h : j < l.length), j < k → beyP q l[j] = false } => [(8, (true, .int .i64 k.1))]) (fun _ => noH) (fun k => l.length - k.1) ⟨0, by omega, fun _ _ h => by omega⟩ ?_ (HLe.refl _) ?_
  · simp [okAll, okv]
  rintro ⟨k, hk, hall⟩
  by_cases hk1 : k < l.length
  · have hki : (k : Int) < l.length := by omega
    have wk : IntKind.wrap .i64 ((k : Int) + 1) = (k + 1 : Nat) := wrap_id (by omega) (by omega)
    obtain ⟨x, hx⟩ : ∃ x, l[k]? = some x := ⟨_, List.getElem?_eq_getElem hk1⟩
    have hx' : l[k] = x := (List.getElem?_eq_some_iff.1 hx).2
    cases hw : beyP q x
    · simp -dsimp [hki]
      repeat' (first | omega | (simp -dsimp [E119, ri, cellp, ints, hki, hk1, hl, hx, hx', hw, wk, hq, beyF, limI, Lim.row, ints, byE_dec, ri]) | (refine Also.intro ?_ fun _ => ?_) | (refine Hold.intro fun _ => ?_) | (refine And.intro ?_ ?_))
      refine ⟨k + 1, tle_chain rfl ?_, HLe.refl _, ⟨by omega, fun j h hj => ?_⟩, by omega⟩
      · simp [okAll, okv]
      · by_cases hjk : j = k
        · subst hjk; rw [hx']; exact hw
        · exact hall j h (by omega)
    · have hz := idxZ_at l (beyP q) hk1 (by rw [hx']; exact hw) hall
      simp -dsimp [hki]
      repeat' (first | omega | (simp -dsimp [E119, ri, cellp, ints, hki, hk1, hl, hx, hx', hw, wk, hz, hq, beyF, limI, Lim.row, ints, byE_dec, ri]) | (refine Also.intro ?_ fun _ => ?_) | (refine Hold.intro fun _ => ?_) | (refine And.intro ?_ ?_))
  · have hkn : ¬ (k : Int) < l.length := by omega
    have hz := idxZ_none l (beyP q) (fun j h => hall j h (by omega))
    simp -dsimp [hkn]
    repeat' (first | omega | (simp -dsimp [E119, ri, cellp, ints, hkn, hz]) | (refine Also.intro ?_ fun _ => ?_) | (refine Hold.intro fun _ => ?_) | (refine And.intro ?_ ?_))
theorem ok119 : FnOK Tryz.prog 119 (.pure bnixS) := pure_fn (E := E119) rfl (.cons ok115 .nil) (ok := []) (fn := Tryz.f119) (by kernel_rfl) (by kernel_rfl) (by kernel_rfl) (by kernel_rfl) rfl (fun _ _ => by simp) b119
noncomputable abbrev E101 : Env := { P := Tryz.prog, fn := tbl [(119, .pure bnixS)], own := [], key := 10100, nt := 9 }
theorem b101 : PureBody E101 [] Tryz.f101 bnanS := by
  refine pb ?_
  rintro ⟨q, l⟩ hP
  have hz := idxZ_any l (beyP q)
  have hd := bnsE_dec q l
  simp -dsimp only [beyF, limI, Lim.row, ints] at hd
  simp -dsimp [Tryz.f101, E101, beyF, limI, Lim.row, ints]
  repeat' (first | omega | (simp -dsimp [E101, ri, cellp, ints, hP, hd, hz, beyF, limI, Lim.row, ints]) | (refine Also.intro ?_ fun _ => ?_) | (refine Hold.intro fun _ => ?_) | (refine And.intro ?_ ?_))
theorem ok101 : FnOK Tryz.prog 101 (.pure bnanS) := pure_fn (E := E101) rfl (.cons ok119 .nil) (ok := []) (fn := Tryz.f101) (by kernel_rfl) (by kernel_rfl) (by kernel_rfl) (by kernel_rfl) rfl (fun _ _ => by simp) b101
def rowBey (l : Lim) (r : List Int) : Bool := r.any (beyP l)
@[simp] def rbE (d : List Int × Lim) : List V := [ints d.1, .ip 1 [[beyF d.2]] 0 0]
theorem rbE_inj (a b : List Int × Lim) (h : rbE a = rbE b) : a = b := by
  obtain ⟨a1, a2⟩ := a; obtain ⟨b1, b2⟩ := b
  simp only [rbE, List.cons.injEq, V.ip.injEq, true_and, and_true] at h
  rw [ints_inj _ _ h.1, beyF_inj _ _ h.2]
theorem rbE_dec (r : List Int) (t : Tb) (a b : Int) : decC rbE [.sl 1 (r.map ri), .ip 1 [[.fn 115 [.ip 5 [[.sl 1 (t.xs.map ri), .sl 1 (t.ys.map ri), .sl 1 (t.vs.map rwI), .int .i64 a, .int .i64 b]] 0 0]]] 0 0] = (r, ⟨t, a, b⟩) := decC_eq rbE_inj (r, ⟨t, a, b⟩)
noncomputable abbrev rbS : PSpec := mkP rbE (fun d => d.1.length ≤ 1000000) fun d => .bool (rowBey d.2 d.1)
noncomputable abbrev E116 : Env := { P := Tryz.prog, fn := tbl [(101, .pure bnanS)], own := [], key := 11600, nt := 7 }
theorem b116 : PureBody E116 [] Tryz.f116 rbS := by
  refine pb ?_
  rintro ⟨r, t, a, b⟩ hl
  have hl : r.length ≤ 1000000 := hl
  have hP : bnsP (⟨t, a, b⟩, r) := ⟨hl, trivial⟩
  have hd := bnsE_dec ⟨t, a, b⟩ r
  simp -dsimp only [beyF, limI, Lim.row, ints] at hd
  simp -dsimp [Tryz.f116, E116, beyF, limI, Lim.row]
  repeat' (first | omega | (simp -dsimp [E116, ri, cellp, ints, hP, hd, beyF, limI, Lim.row, rowBey]) | (refine Also.intro ?_ fun _ => ?_) | (refine Hold.intro fun _ => ?_) | (refine And.intro ?_ ?_))
theorem ok116 : FnOK Tryz.prog 116 (.pure rbS) := pure_fn (E := E116) rfl (.cons ok101 .nil) (ok := []) (fn := Tryz.f116) (by kernel_rfl) (by kernel_rfl) (by kernel_rfl) (by kernel_rfl) rfl (fun _ _ => by simp) b116
def rwF (l : Lim) : V := .fn 116 [.ip 1 [[beyF l]] 0 0]
structure RvD where
  q : Lim
  l : List (List Int)
  deriving Inhabited
@[simp] def rvE (d : RvD) : List V := [.sl 1 (d.l.map rwI), rwF d.q]
theorem rvE_inj (a b : RvD) (h : rvE a = rvE b) : a = b := by
  obtain ⟨a1, a2⟩ := a; obtain ⟨b1, b2⟩ := b
  simp only [rvE, List.cons.injEq, rwF, V.fn.injEq, V.ip.injEq, V.sl.injEq, true_and, and_true] at h
  rw [beyF_inj _ _ h.2, mapRow_inj rwI_inj h.1]
theorem rvE_dec (q : Lim) (l : List (List Int)) : decC rvE [.sl 1 (l.map rwI), rwF q] = ⟨q, l⟩ := decC_eq rvE_inj ⟨q, l⟩
structure RvP (d : RvD) : Prop where
  n : d.l.length ≤ 1000000
  r : ∀ x ∈ d.l, x.length ≤ 1000000
noncomputable abbrev rviS : PSpec := mkP rvE RvP fun d => .int .i64 (idxZ d.l (rowBey d.q))
noncomputable abbrev rvaS : PSpec := mkP rvE RvP fun d => .bool (d.l.any (rowBey d.q))
noncomputable abbrev E120 : Env := { P := Tryz.prog, fn := tbl [(116, .pure rbS)], own := [], key := 12000, nt := 19 }
theorem b120 : PureBody E120 [] Tryz.f120 rviS := by
  refine pb ?_
  rintro ⟨⟨t, a, b⟩, l⟩ ⟨hl, hr⟩
  simp only at hl hr
  simp -dsimp [Tryz.f120, E120, rwF, beyF, limI, Lim.row]
  refine awp_loop [9, 10, 5, 11, 12, 13, 14, 15, 16, 17, 4, 18, 8] (fun k : { k : Nat // k ≤ l.length ∧ ∀ j (h : j < l.length), j < k → rowBey ⟨t, a, b⟩ l[j] = false } => [(8, (true, .int .i64 k.1))]) (fun _ => noH) (fun k => l.length - k.1) ⟨0, by omega, fun _ _ h => by omega⟩ ?_ (HLe.refl _) ?_
  · simp [okAll, okv]
  rintro ⟨k, hk, hall⟩
  by_cases hk1 : k < l.length
  · have hki : (k : Int) < l.length := by omega
    have wk : IntKind.wrap .i64 ((k : Int) + 1) = (k + 1 : Nat) := wrap_id (by omega) (by omega)
    obtain ⟨r, hg, hg'⟩ := get_ex hk1
    have hrl : r.length ≤ 1000000 := by rw [← hg']; exact hr _ (List.getElem_mem _)
    cases hw : rowBey ⟨t, a, b⟩ r
    · simp -dsimp [hki]
      repeat' (first | omega | (simp -dsimp [E120, ri, cellp, ints, hki, hk1, hl, hrl, hw, wk, hg, hg', rbE_dec, rwI, rwF, beyF, limI, Lim.row]) | (refine Also.intro ?_ fun _ => ?_) | (refine Hold.intro fun _ => ?_) | (refine And.intro ?_ ?_))
      refine ⟨k + 1, tle_chain rfl ?_, HLe.refl _, ⟨by omega, fun j h hj => ?_⟩, by omega⟩
      · simp [okAll, okv]
      · by_cases hjk : j = k
        · subst hjk; rw [hg']; exact hw
        · exact hall j h (by omega)
    · have hz := idxZ_at l (rowBey ⟨t, a, b⟩) hk1 (by rw [hg']; exact hw) hall
      simp -dsimp [hki]
      repeat' (first | omega | (simp -dsimp [E120, ri, cellp, ints, hki, hk1, hl, hrl, hw, wk, hz, hg, hg', rbE_dec, rwI, rwF, beyF, limI, Lim.row]) | (refine Also.intro ?_ fun _ => ?_) | (refine Hold.intro fun _ => ?_) | (refine And.intro ?_ ?_))
  · have hkn : ¬ (k : Int) < l.length := by omega
    have hz := idxZ_none l (rowBey ⟨t, a, b⟩) (fun j h => hall j h (by omega))
    simp -dsimp [hkn]
    repeat' (first | omega | (simp -dsimp [E120, ri, cellp, ints, hkn, hz]) | (refine Also.intro ?_ fun _ => ?_) | (refine Hold.intro fun _ => ?_) | (refine And.intro ?_ ?_))
theorem ok120 : FnOK Tryz.prog 120 (.pure rviS) := pure_fn (E := E120) rfl (.cons ok116 .nil) (ok := []) (fn := Tryz.f120) (by kernel_rfl) (by kernel_rfl) (by kernel_rfl) (by kernel_rfl) rfl (fun _ _ => by simp) b120
noncomputable abbrev E103 : Env := { P := Tryz.prog, fn := tbl [(120, .pure rviS)], own := [], key := 10300, nt := 9 }
theorem b103 : PureBody E103 [] Tryz.f103 rvaS := by
  refine pb ?_
  rintro ⟨q, l⟩ hP
  have hz := idxZ_any l (rowBey q)
  have hd := rvE_dec q l
  simp -dsimp only [rwF, beyF, limI, Lim.row, ints] at hd
  simp -dsimp [Tryz.f103, E103, rwF, beyF, limI, Lim.row]
  repeat' (first | omega | (simp -dsimp [E103, ri, cellp, ints, hP, hd, hz, rwF, beyF, limI, Lim.row]) | (refine Also.intro ?_ fun _ => ?_) | (refine Hold.intro fun _ => ?_) | (refine And.intro ?_ ?_))
theorem ok103 : FnOK Tryz.prog 103 (.pure rvaS) := pure_fn (E := E103) rfl (.cons ok120 .nil) (ok := []) (fn := Tryz.f103) (by kernel_rfl) (by kernel_rfl) (by kernel_rfl) (by kernel_rfl) rfl (fun _ _ => by simp) b103
@[simp] def liE (d : Lim) : List V := [.agg d.row]
theorem liE_inj (a b : Lim) (h : liE a = liE b) : a = b := Lim.row_inj _ _ (by simpa using h)
def limB (l : Lim) : Bool := tbB l.t && !l.t.vs.any (rowBey l)
theorem tbB_rows {t : Tb} (h : tbB t = true) : ∀ r ∈ t.vs, r.length = t.ys.length := by
  simp only [tbB, Bool.and_eq_true, Bool.not_eq_true', List.any_eq_false] at h
  intro r hr
  have := h.2.2.2 r hr
  simp only [rowBad, Bool.or_eq_true, not_or, Bool.not_eq_true', Bool.not_eq_true] at this
  simpa using this.1
theorem tbB_len {t : Tb} (h : tbB t = true) : t.xs.length ≤ 12 ∧ t.ys.length ≤ 12 ∧ t.vs.length = t.xs.length := by
  simp only [tbB, Bool.and_eq_true, decide_eq_true_eq] at h
  exact ⟨(axB_len h.1).2, (axB_len h.2.1).2, h.2.2.1⟩
noncomputable abbrev limS : PSpec := mkP liE (fun d => TbP d.t) fun d => .bool (limB d)
noncomputable abbrev E82 : Env := { P := Tryz.prog, fn := tbl [(65, .pure ctS), (115, .pure byS), (116, .pure rbS), (103, .pure rvaS)], own := [], key := 8200, nt := 17, frz := [(1, [1, 50001])] }
theorem b82 : PureBody E82 [] Tryz.f82 limS := by
  refine pb ?_
  rintro ⟨t, a, b⟩ hP
  have hP : TbP t := hP
  cases h1 : tbB t
  · have hz : limB ⟨t, a, b⟩ = false := by simp [limB, h1]
    simp -dsimp [Tryz.f82, E82, Lim.row]
    repeat' (first | omega | (simp -dsimp [E82, ri, cellp, ints, hP, h1, hz, tbE_dec, Lim.row, tabR]) | (refine Also.intro ?_ fun _ => ?_) | (refine Hold.intro fun _ => ?_) | (refine And.intro ?_ ?_))
  have hl := tbB_len h1
  have hr := tbB_rows h1
  have hQ : RvP ⟨⟨t, a, b⟩, t.vs⟩ := ⟨by simp only; omega, fun x hx => by rw [hr x hx]; omega⟩
  have hd := rvE_dec ⟨t, a, b⟩ t.vs
  simp -dsimp only [rwF, beyF, limI, Lim.row, ints] at hd
  have hz : limB ⟨t, a, b⟩ = !t.vs.any (rowBey ⟨t, a, b⟩) := by simp [limB, h1]
  simp -dsimp [Tryz.f82, E82, Lim.row]
  repeat' (first | omega | (simp -dsimp [E82, ri, cellp, ints, hP, h1, hQ, hd, hz, tbE_dec, Lim.row, rwF, beyF, limI, tabR]) | (refine Also.intro ?_ fun _ => ?_) | (refine Hold.intro fun _ => ?_) | (refine And.intro ?_ ?_))
theorem ok82 : FnOK Tryz.prog 82 (.pure limS) := pure_fn (E := E82) rfl (.cons ok65 (.cons ok115 (.cons ok116 (.cons ok103 .nil)))) (ok := []) (fn := Tryz.f82) (by kernel_rfl) (by kernel_rfl) (by kernel_rfl) (by kernel_rfl) rfl (fun _ _ => by simp) b82
end Go.Sx.Rot
end
section
/- The reference's layer 1: spans, axes, tables. No conditions. -/
set_option linter.unusedSimpArgs false
set_option linter.unusedSectionVars false
set_option maxRecDepth 100000
set_option maxHeartbeats 4000000
namespace Go.Sx.Rot
open Go.Proofs Go.Sx Go.Sx.Tab
attribute [local irreducible] HLe
attribute [local simp] hps_app
noncomputable abbrev E98 : Env := { P := Tryz.prog, fn := tbl [], own := [], key := 9800, nt := 15 }
theorem b98 : PureBody E98 [] Tryz.f98 withinS := by
  refine pb ?_
  rintro ⟨n, a, b⟩ _
  simp -dsimp [Tryz.f98, E98, withinB]
  repeat' (first | omega | (simp -dsimp [E98, ri, cellp, ints, *]) | (refine Also.intro ?_ fun _ => ?_) | (refine Hold.intro fun _ => ?_) | (refine And.intro ?_ ?_))
theorem ok98 : FnOK Tryz.prog 98 (.pure withinS) := pure_fn (E := E98) rfl LOK.nil (ok := []) (fn := Tryz.f98) (by kernel_rfl) (by kernel_rfl) (by kernel_rfl) (by kernel_rfl) rfl (fun _ _ => by simp) b98
theorem spN_two (p : Sp) : spN p = !(withinB p.lo (-1000000) 1000000 && withinB p.hi p.lo 1000000) := by
  rw [spN_eq]
  simp only [withinB]
  by_cases h : -1000000 ≤ p.lo ∧ p.lo ≤ p.hi ∧ p.hi ≤ 1000000
  · rw [decide_eq_true h, decide_eq_true (by omega), decide_eq_true (by omega)]; rfl
  · rw [decide_eq_false h]
    by_cases h2 : -1000000 ≤ p.lo ∧ p.lo ≤ 1000000
    · rw [decide_eq_true h2, decide_eq_false (by omega)]; rfl
    · rw [decide_eq_false h2]; rfl
noncomputable abbrev valS : PSpec := mkP spE (fun _ => True) fun f => .bool (!spN f)
noncomputable abbrev E64 : Env := { P := Tryz.prog, fn := tbl [(98, .pure withinS)], own := [], key := 6400, nt := 13 }
theorem b64 : PureBody E64 [] Tryz.f64 valS := by
  refine pb ?_
  rintro f _
  have hz := spN_two f
  cases h : withinB f.lo (-1000000) 1000000
  all_goals
    rw [h] at hz
    simp -dsimp [Tryz.f64, E64, Sp.row]
    repeat' (first | omega | (simp -dsimp [E64, ri, cellp, ints, Sp.row, h, hz]) | (refine Also.intro ?_ fun _ => ?_) | (refine Hold.intro fun _ => ?_) | (refine And.intro ?_ ?_))
theorem ok64 : FnOK Tryz.prog 64 (.pure valS) := pure_fn (E := E64) rfl (.cons ok98 .nil) (ok := []) (fn := Tryz.f64) (by kernel_rfl) (by kernel_rfl) (by kernel_rfl) (by kernel_rfl) rfl (fun _ _ => by simp) b64
noncomputable abbrev E33 : Env := { P := Tryz.prog, fn := tbl [], own := [], key := 3300, nt := 22 }
theorem b33 : PureBody E33 [] Tryz.f33 lieS := by
  refine pb ?_
  rintro ⟨l, s⟩ ⟨h0, hl⟩
  simp only at h0 hl
  obtain ⟨x, hx, hx'⟩ := get_ex h0
  have hm : l.length - 1 < l.length := by omega
  obtain ⟨y, hy, hy'⟩ := get_ex hm
  have gx : l.getD 0 0 = x := by simp [List.getD, hx]
  have gy : l.getD (l.length - 1) 0 = y := by simp [List.getD, hy]
  have wl : IntKind.wrap .i64 ((l.length : Int) - 1) = (l.length - 1 : Nat) := by rw [wrap_id (by omega) (by omega)]; omega
  have hz : lieB l s = (decide (x ≤ s.lo) && decide (s.hi ≤ y)) := by rw [lieB, gx, gy]
  by_cases h1 : x ≤ s.lo
  all_goals
    simp -dsimp [Tryz.f33, E33, Sp.row]
    repeat' (first | omega | (simp -dsimp [E33, ri, cellp, ints, h0, hl, hx, hx', hm, hy, hy', wl, hz, h1, Sp.row]) | (refine Also.intro ?_ fun _ => ?_) | (refine Hold.intro fun _ => ?_) | (refine And.intro ?_ ?_))
theorem ok33 : FnOK Tryz.prog 33 (.pure lieS) := pure_fn (E := E33) rfl LOK.nil (ok := []) (fn := Tryz.f33) (by kernel_rfl) (by kernel_rfl) (by kernel_rfl) (by kernel_rfl) rfl (fun _ _ => by simp) b33
@[simp] def twE (d : Sp × Sp) : List V := [.agg d.1.row, .agg d.2.row]
theorem twE_inj (a b : Sp × Sp) (h : twE a = twE b) : a = b := by
  obtain ⟨a1, a2⟩ := a; obtain ⟨b1, b2⟩ := b
  simp only [twE, List.cons.injEq, V.agg.injEq, and_true] at h
  rw [show a1 = b1 from Sp.row_inj _ _ h.1, show a2 = b2 from Sp.row_inj _ _ h.2]
theorem twE_dec (a b : Sp) : decC twE [.agg [.int .i64 a.lo, .int .i64 a.hi], .agg [.int .i64 b.lo, .int .i64 b.hi]] = (a, b) := decC_eq twE_inj (a, b)
noncomputable abbrev E124 : Env := { P := Tryz.prog, fn := tbl [(98, .pure withinS)], own := [], key := 12400, nt := 38 }
theorem b124 : PureBody E124 [] Tryz.f124 axS := by
  refine pb ?_
  rintro l hl
  have hl : l.length ≤ 9223372036854775807 := hl
  cases h1 : withinB l.length 2 12
  · have hz : axB l = false := by simp [axB, h1]
    simp -dsimp [Tryz.f124, E124]
    repeat' (first | omega | (simp -dsimp [E124, ri, cellp, ints, hl, h1, hz]) | (refine Also.intro ?_ fun _ => ?_) | (refine Hold.intro fun _ => ?_) | (refine And.intro ?_ ?_))
  have h12 : 2 ≤ (l.length : Int) ∧ (l.length : Int) ≤ 12 := by simpa [withinB] using h1
  simp -dsimp [Tryz.f124, E124]
  repeat' (first | omega | (simp -dsimp [E124, ri, cellp, ints, hl, h1]) | (refine Also.intro ?_ fun _ => ?_) | (refine Hold.intro fun _ => ?_) | (refine And.intro ?_ ?_))
  refine awp_loop [8, 9, 10, 11, 14, 15, 16, 17, 18, 19, 20, 21, 22, 23, 24, 25, 26, 27, 28, 29, 30, 31, 32, 33, 34, 35, 36, 37, 2, 12, 13, 3] (fun k : { k : Nat // k ≤ l.length ∧ ∀ j, j < k → axAt l j = true } => [(3, (true, .int .i64 k.1))]) (fun _ => noH) (fun k => l.length - k.1) ⟨0, by omega, fun _ h => by omega⟩ ?_ (HLe.refl _) ?_
  · simp [okAll, okv]
  rintro ⟨k, hk, hall⟩
  dsimp only
  by_cases hk1 : k < l.length
  · have hki : ((k : Int) < l.length) = True := eq_true (by omega)
    have wk : IntKind.wrap .i64 ((k : Int) + 1) = (k + 1 : Nat) := wrap_id (by omega) (by omega)
    obtain ⟨x, hx, hx'⟩ := get_ex hk1
    have gx : l.getD k 0 = x := by simp [List.getD, hx]
    cases hf : withinB x (-1000000) 1000000
    · have hz := axB_no hk1 (by rw [axAt_of gx rfl]; simp [far6, hf])
      simp -dsimp [hki]
      repeat' (first | omega | (simp -dsimp [E124, ri, cellp, ints, hki, hk1, hx, hx', hf, hz]) | (refine Also.intro ?_ fun _ => ?_) | (refine Hold.intro fun _ => ?_) | (refine And.intro ?_ ?_))
    · have hfx : -1000000 ≤ x ∧ x ≤ 1000000 := by simpa [withinB] using hf
      by_cases hk0 : k = 0
      · have ha : axAt l k = true := by rw [axAt_of gx rfl]; simp [far6, hf, hk0]
        have hk0' : ((0 : Int) < k) = False := eq_false (by omega)
        have hk0n : (0 < k) = False := eq_false (by omega)
        simp -dsimp [hki]
        repeat' (first | omega | (simp -dsimp [E124, ri, cellp, ints, hki, hk1, hx, hx', hf, hk0', hk0n, wk]) | (refine Also.intro ?_ fun _ => ?_) | (refine Hold.intro fun _ => ?_) | (refine And.intro ?_ ?_))
        refine ⟨k + 1, tle_chain rfl ?_, HLe.refl _, ⟨by omega, fun j hj => ?_⟩, by omega⟩
        · simp [okAll, okv]
        · have : j = k := by omega
          subst this; exact ha
      · have hk0' : ((0 : Int) < k) = True := eq_true (by omega)
        have hk0n : (0 < k) = True := eq_true (by omega)
        have wkm : IntKind.wrap .i64 ((k : Int) - 1) = (k - 1 : Nat) := by rw [wrap_id (by omega) (by omega)]; omega
        have hkm : k - 1 < l.length := by omega
        obtain ⟨y, hy, hy'⟩ := get_ex hkm
        have gy : l.getD (k - 1) 0 = y := by simp [List.getD, hy]
        have hyr : -1000000 ≤ y ∧ y ≤ 1000000 := by
          have := hall (k - 1) (by omega)
          simp only [axAt, gy, far6, Bool.and_eq_true, Bool.not_not] at this
          simpa [withinB] using this.1
        have wxy : IntKind.wrap .i64 (x - y) = x - y := wrap_id (by omega) (by omega)
        cases hd : withinB (x - y) 1 10000
        · have hz := axB_no hk1 (by rw [axAt_of gx gy]; simp [hd, hk0])
          simp -dsimp [hki]
          repeat' (first | omega | (simp -dsimp [E124, ri, cellp, ints, hki, hk1, hx, hx', hf, hk0', hk0n, wkm, hkm, hy, hy', wxy, hd, hz]) | (refine Also.intro ?_ fun _ => ?_) | (refine Hold.intro fun _ => ?_) | (refine And.intro ?_ ?_))
        · have ha : axAt l k = true := by rw [axAt_of gx gy]; simp [hd, far6, hf]
          simp -dsimp [hki]
          repeat' (first | omega | (simp -dsimp [E124, ri, cellp, ints, hki, hk1, hx, hx', hf, hk0', hk0n, wkm, hkm, hy, hy', wxy, hd, wk]) | (refine Also.intro ?_ fun _ => ?_) | (refine Hold.intro fun _ => ?_) | (refine And.intro ?_ ?_))
          refine ⟨k + 1, tle_chain rfl ?_, HLe.refl _, ⟨by omega, fun j hj => ?_⟩, by omega⟩
          · simp [okAll, okv]
          · by_cases e : j = k
            · subst e; exact ha
            · exact hall j (by omega)
  have hkn : ((k : Int) < l.length) = False := eq_false (by omega)
  have hz := axB_ok h1 fun j hj => hall j (by omega)
  simp -dsimp [hkn]
  repeat' (first | omega | (simp -dsimp [E124, ri, cellp, ints, hkn, hz]) | (refine Also.intro ?_ fun _ => ?_) | (refine Hold.intro fun _ => ?_) | (refine And.intro ?_ ?_))
theorem ok124 : FnOK Tryz.prog 124 (.pure axS) := pure_fn (E := E124) rfl (.cons ok98 .nil) (ok := []) (fn := Tryz.f124) (by kernel_rfl) (by kernel_rfl) (by kernel_rfl) (by kernel_rfl) rfl (fun _ _ => by simp) b124
end Go.Sx.Rot
end
section
/- Tables: the upper side: a table that is at most L at the corners is so on the whole box. No conditions. -/
set_option linter.unusedSimpArgs false
set_option linter.unusedSectionVars false
namespace Go.Sx
def Tb.neg (t : Tb) : Tb := ⟨t.xs, t.ys, t.vs.map fun r => r.map fun x => -x⟩
theorem Tb.neg_v (t : Tb) (i k : Nat) : t.neg.v i k = -t.v i k := by
  unfold Tb.v Tb.neg
  simp only [List.getD, List.getElem?_map]
  cases t.vs[i]? with
  | none => simp
  | some r =>
    simp only [Option.map_some, Option.getD_some, List.getElem?_map]
    cases r[k]? <;> simp
theorem Tb.neg_num (t : Tb) (i k : Nat) (x y : Int) : t.neg.num i k x y = -t.num i k x y := by
  have e1 : t.neg.xs = t.xs := rfl
  have e2 : t.neg.ys = t.ys := rfl
  simp only [Tb.num, Tb.neg_v, e1, e2, Int.mul_neg]
  omega
theorem Tb.neg_den (t : Tb) (i k : Nat) : t.neg.den i k = t.den i k := rfl
def Tb.le (t : Tb) (L : Int) (x y : Int) : Prop := ∀ i k, inC t.xs i x → inC t.ys k y → t.num i k x y ≤ L * t.den i k
theorem Tb.le_neg {t : Tb} {L x y : Int} : t.neg.ge (-L) x y ↔ t.le L x y := by
  constructor
  · intro h i k hi hk
    have := h i k hi hk
    rw [Tb.neg_num, Tb.neg_den, Int.neg_mul] at this
    omega
  · intro h i k hi hk
    have := h i k hi hk
    rw [Tb.neg_num, Tb.neg_den, Int.neg_mul]
    omega
theorem Tb.le_box {t : Tb} (hx : asc t.xs) (hy : asc t.ys) (h2x : 2 ≤ t.xs.length) (h2y : 2 ≤ t.ys.length) {L : Int} {a b : Sp} (la : lies t.xs a) (lb : lies t.ys b)
    (h : ∀ p ∈ stops t.xs a, ∀ q ∈ stops t.ys b, t.le L p q) {x y : Int} (hx1 : a.lo ≤ x) (hx2 : x ≤ a.hi) (hy1 : b.lo ≤ y) (hy2 : y ≤ b.hi) : t.le L x y :=
  Tb.le_neg.1 (Tb.ge_box (t := t.neg) hx hy h2x h2y la lb (fun p hp q hq => Tb.le_neg.2 (h p hp q hq)) hx1 hx2 hy1 hy2)
end Go.Sx
end
