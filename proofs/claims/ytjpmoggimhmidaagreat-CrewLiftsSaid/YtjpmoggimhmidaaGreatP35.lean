/- A part of a proof; no conditions. -/
import Derived.Test.YtjpmoggimhmidaaGreatP32
set_option linter.unusedSimpArgs false
set_option linter.unusedVariables false
set_option linter.unusedSectionVars false
section
/- Rotor: the errors of a margin; Margin. No conditions. -/
set_option linter.unusedSimpArgs false
set_option linter.unusedSectionVars false
set_option maxRecDepth 100000
set_option maxHeartbeats 4000000
namespace Go.Sx.Rot
open Go.Proofs Go.Sx Go.Sx.Tab
attribute [local irreducible] HLe
attribute [local simp] hps_app

@[simp] def fspsE (d : List Sp) : List V := [.sl 2 (d.map Sp.row), .fn 76 []]
theorem fspsE_inj (a b : List Sp) (h : fspsE a = fspsE b) : a = b := by
  simp only [fspsE, List.cons.injEq, V.sl.injEq, true_and, and_true] at h
  exact mapRow_inj Sp.row_inj h
theorem fspsE_dec (l : List Sp) : decC fspsE [.sl 2 (l.map Sp.row), .fn 76 []] = l := decC_eq fspsE_inj l
noncomputable abbrev fspixS : PSpec := mkP fspsE (fun d => d.length ≤ 1000000) fun d => .int .i64 (idxZ d spN)
noncomputable abbrev fspanS : PSpec := mkP fspsE (fun d => d.length ≤ 1000000) fun d => .bool (d.any spN)
noncomputable abbrev E102 : Env := { P := Tryz.prog, fn := tbl [(76, .pure nvS)], own := [], key := 10200, nt := 19 }
theorem b102 : PureBody E102 [] Tryz.f102 fspixS := by
  refine pb ?_
  rintro l hl
  have hl : l.length ≤ 1000000 := hl
  simp -dsimp [Tryz.f102, E102]
  refine awp_loop [9, 10, 5, 11, 12, 13, 14, 15, 16, 17, 4, 18, 8] (fun k : { k : Nat // k ≤ l.length ∧ ∀ j (h : j < l.length), j < k → spN l[j] = false } => [(8, (true, .int .i64 k.1))]) (fun _ => noH) (fun k => l.length - k.1) ⟨0, by omega, fun _ _ h => by omega⟩ ?_ (HLe.refl _) ?_
  · simp [okAll, okv]
  rintro ⟨k, hk, hall⟩
  by_cases hk1 : k < l.length
  · have hki : (k : Int) < l.length := by omega
    have wk : IntKind.wrap .i64 ((k : Int) + 1) = (k + 1 : Nat) := wrap_id (by omega) (by omega)
    cases hw : spN l[k]
    · simp -dsimp [hki]
      repeat' (first | omega | (simp -dsimp [E102, ri, cellp, ints, hki, hk1, hl, hw, wk, spE_dec, Sp.row]) | (refine Also.intro ?_ fun _ => ?_) | (refine Hold.intro fun _ => ?_) | (refine And.intro ?_ ?_))
      refine ⟨k + 1, tle_chain rfl ?_, HLe.refl _, ⟨by omega, fun j h hj => ?_⟩, by omega⟩
      · simp [okAll, okv]
      · by_cases hjk : j = k
        · subst hjk; exact hw
        · exact hall j h (by omega)
    · have hz := idxZ_at l spN hk1 hw hall
      simp -dsimp [hki]
      repeat' (first | omega | (simp -dsimp [E102, ri, cellp, ints, hki, hk1, hl, hw, wk, hz, spE_dec, Sp.row]) | (refine Also.intro ?_ fun _ => ?_) | (refine Hold.intro fun _ => ?_) | (refine And.intro ?_ ?_))
  · have hkn : ¬ (k : Int) < l.length := by omega
    have hz := idxZ_none l spN (fun j h => hall j h (by omega))
    simp -dsimp [hkn]
    repeat' (first | omega | (simp -dsimp [E102, ri, cellp, ints, hkn, hz]) | (refine Also.intro ?_ fun _ => ?_) | (refine Hold.intro fun _ => ?_) | (refine And.intro ?_ ?_))
theorem ok102 : FnOK Tryz.prog 102 (.pure fspixS) := pure_fn (E := E102) rfl (.cons ok76 .nil) (ok := []) (fn := Tryz.f102) (by kernel_rfl) (by kernel_rfl) (by kernel_rfl) (by kernel_rfl) rfl (fun _ _ => by simp) b102
noncomputable abbrev E75 : Env := { P := Tryz.prog, fn := tbl [(102, .pure fspixS)], own := [], key := 7500, nt := 9 }
theorem b75 : PureBody E75 [] Tryz.f75 fspanS := by
  refine pb ?_
  rintro l hl
  have hl : l.length ≤ 1000000 := hl
  have hz := idxZ_any l spN
  simp -dsimp [Tryz.f75, E75]
  repeat' (first | omega | (simp -dsimp [E75, ri, cellp, ints, hl, fspsE_dec, hz]) | (refine Also.intro ?_ fun _ => ?_) | (refine Hold.intro fun _ => ?_) | (refine And.intro ?_ ?_))
theorem ok75 : FnOK Tryz.prog 75 (.pure fspanS) := pure_fn (E := E75) rfl (.cons ok102 .nil) (ok := []) (fn := Tryz.f75) (by kernel_rfl) (by kernel_rfl) (by kernel_rfl) (by kernel_rfl) rfl (fun _ _ => by simp) b75
/-! tables looked up -/
def lkN (d : BdD) : Bool := !lkB d
@[simp] def flkE (l : List BdD) : List V := [.sl 7 (l.map lkR), .fn 78 []]
theorem flkE_inj (a b : List BdD) (h : flkE a = flkE b) : a = b := by
  simp only [flkE, List.cons.injEq, V.sl.injEq, true_and, and_true] at h
  exact mapRow_inj lkR_inj h
theorem flkE_dec (l : List BdD) : decC flkE [.sl 7 (l.map lkR), .fn 78 []] = l := decC_eq flkE_inj l
structure FlP (l : List BdD) : Prop where
  n : l.length ≤ 1000000
  e : ∀ d ∈ l, LkP d
noncomputable abbrev flixS : PSpec := mkP flkE FlP fun l => .int .i64 (idxZ l lkN)
noncomputable abbrev flanS : PSpec := mkP flkE FlP fun l => .bool (l.any lkN)
theorem lk_dec (d : BdD) : decC lkE [.agg (lkR d)] = d := decC_eq lkE_inj d
noncomputable abbrev E103 : Env := { P := Tryz.prog, fn := tbl [(78, .pure nlS)], own := [], key := 10300, nt := 19 }
theorem b103 : PureBody E103 [] Tryz.f103 flixS := by
  refine pb ?_
  rintro l ⟨hl, he⟩
  simp -dsimp [Tryz.f103, E103]
  refine awp_loop [9, 10, 5, 11, 12, 13, 14, 15, 16, 17, 4, 18, 8] (fun k : { k : Nat // k ≤ l.length ∧ ∀ j (h : j < l.length), j < k → lkN l[j] = false } => [(8, (true, .int .i64 k.1))]) (fun _ => noH) (fun k => l.length - k.1) ⟨0, by omega, fun _ _ h => by omega⟩ ?_ (HLe.refl _) ?_
  · simp [okAll, okv]
  rintro ⟨k, hk, hall⟩
  by_cases hk1 : k < l.length
  · have hki : (k : Int) < l.length := by omega
    have wk : IntKind.wrap .i64 ((k : Int) + 1) = (k + 1 : Nat) := wrap_id (by omega) (by omega)
    obtain ⟨x, hx, hx'⟩ := get_ex hk1
    have hX : LkP x := he x (hx' ▸ List.getElem_mem hk1)
    have hn : lkN x = !lkB x := rfl
    cases hw : lkB x
    · have hz := idxZ_at l lkN hk1 (by rw [hx', hn, hw]; rfl) hall
      simp -dsimp [hki]
      repeat' (first | omega | (simp -dsimp [E103, ri, cellp, ints, hki, hk1, hl, hx, hx', hX, hw, wk, hz, lk_dec]) | (refine Also.intro ?_ fun _ => ?_) | (refine Hold.intro fun _ => ?_) | (refine And.intro ?_ ?_))
    · simp -dsimp [hki]
      repeat' (first | omega | (simp -dsimp [E103, ri, cellp, ints, hki, hk1, hl, hx, hx', hX, hw, wk, lk_dec]) | (refine Also.intro ?_ fun _ => ?_) | (refine Hold.intro fun _ => ?_) | (refine And.intro ?_ ?_))
      refine ⟨k + 1, tle_chain rfl ?_, HLe.refl _, ⟨by omega, fun j h hj => ?_⟩, by omega⟩
      · simp [okAll, okv]
      · by_cases hjk : j = k
        · subst hjk; rw [hx', hn, hw]; rfl
        · exact hall j h (by omega)
  · have hkn : ¬ (k : Int) < l.length := by omega
    have hz := idxZ_none l lkN (fun j h => hall j h (by omega))
    simp -dsimp [hkn]
    repeat' (first | omega | (simp -dsimp [E103, ri, cellp, ints, hkn, hz]) | (refine Also.intro ?_ fun _ => ?_) | (refine Hold.intro fun _ => ?_) | (refine And.intro ?_ ?_))
theorem ok103 : FnOK Tryz.prog 103 (.pure flixS) := pure_fn (E := E103) rfl (.cons ok78 .nil) (ok := []) (fn := Tryz.f103) (by kernel_rfl) (by kernel_rfl) (by kernel_rfl) (by kernel_rfl) rfl (fun _ _ => by simp) b103
noncomputable abbrev E77 : Env := { P := Tryz.prog, fn := tbl [(103, .pure flixS)], own := [], key := 7700, nt := 9 }
theorem b77 : PureBody E77 [] Tryz.f77 flanS := by
  refine pb ?_
  rintro l hl
  have hz := idxZ_any l lkN
  simp -dsimp [Tryz.f77, E77]
  repeat' (first | omega | (simp -dsimp [E77, ri, cellp, ints, hl, flkE_dec, hz]) | (refine Also.intro ?_ fun _ => ?_) | (refine Hold.intro fun _ => ?_) | (refine And.intro ?_ ?_))
theorem ok77 : FnOK Tryz.prog 77 (.pure flanS) := pure_fn (E := E77) rfl (.cons ok103 .nil) (ok := []) (fn := Tryz.f77) (by kernel_rfl) (by kernel_rfl) (by kernel_rfl) (by kernel_rfl) rfl (fun _ _ => by simp) b77
end Go.Sx.Rot
end
section
/- Rotor: the errors of a rotor in an air; Margin. No conditions. -/
set_option linter.unusedSimpArgs false
set_option linter.unusedSectionVars false
set_option maxRecDepth 100000
set_option maxHeartbeats 4000000
namespace Go.Sx.Rot
open Go.Proofs Go.Sx Go.Sx.Tab
attribute [local irreducible] HLe
attribute [local simp] hps_app

def aiL (a : Ai) : List Sp := [a.w, a.t, a.h, a.v]
theorem aiL_rows (a : Ai) : ([[.int .i64 a.w.lo, .int .i64 a.w.hi], [.int .i64 a.t.lo, .int .i64 a.t.hi], [.int .i64 a.h.lo, .int .i64 a.h.hi], [.int .i64 a.v.lo, .int .i64 a.v.hi]] : List (List V)) = (aiL a).map Sp.row := rfl
def mgE (m : Ma) (s : Sp) : Int := if rotB m.r = true then (if (aiL m.a).any spN = true then 21 else if (spN s || (mtL m s).any lkN) = true then 1 else 0) else 20
def tabF (d : Ma × Sp) : V := .fn 43 [maI d.1, spI d.2]
@[simp] def chE (d : Ma × Sp) : List V := [.agg d.1.r.row, .agg d.1.a.row, .sl 2 [d.2.row], tabF d]
theorem chE_inj (a b : Ma × Sp) (h : chE a = chE b) : a = b := by
  obtain ⟨⟨a1, a2⟩, a3⟩ := a; obtain ⟨⟨b1, b2⟩, b3⟩ := b
  simp only [chE, List.cons.injEq, V.agg.injEq, V.sl.injEq, true_and, and_true] at h
  rw [show a1 = b1 from Ro.row_inj _ _ h.1, show a2 = b2 from Ai.row_inj _ _ h.2.1, show a3 = b3 from Sp.row_inj _ _ h.2.2.1]
theorem chE_dec (m : Ma) (s : Sp) : decC chE [.agg m.r.row, .agg m.a.row, .sl 2 [[.int .i64 s.lo, .int .i64 s.hi]], .fn 43 [.ip 34 [m.row] 0 0, .ip 2 [[.int .i64 s.lo, .int .i64 s.hi]] 0 0]] = (m, s) := decC_eq chE_inj (m, s)
noncomputable abbrev chS : PSpec := mkP chE (fun d => RoP d.1.r) fun d => .int .i64 (mgE d.1 d.2)
theorem mtL_lk {m : Ma} (s : Sp) (h : rotB m.r = true) : FlP (mtL m s) := by
  simp only [rotB, Bool.and_eq_true, List.all_eq_true] at h
  have hb : ∀ x ∈ limL m.r, 2 ≤ x.t.xs.length ∧ x.t.xs.length ≤ 12 ∧ 2 ≤ x.t.ys.length ∧ x.t.ys.length ≤ 12 := fun x hx => by
    have := h.1 x hx
    simp only [limB, tbB, Bool.and_eq_true] at this
    have a := axB_len this.1.1
    have b := axB_len this.1.2.1
    omega
  have b0 := hb ⟨m.r.h, 0, 100000⟩ (by simp [limL])
  have b1 := hb ⟨m.r.g, 0, 100⟩ (by simp [limL])
  have b3 := hb ⟨m.r.p, 0, 100000⟩ (by simp [limL])
  simp only at b0 b1 b3
  refine ⟨by simp [mtL], fun d hd => ?_⟩
  simp only [mtL, List.mem_cons, List.not_mem_nil, or_false] at hd
  rcases hd with rfl | rfl | rfl
  · exact ⟨by show 0 < m.r.h.xs.length; omega, by show 0 < m.r.h.ys.length; omega, by show m.r.h.xs.length ≤ _; omega, by show m.r.h.ys.length ≤ _; omega⟩
  · exact ⟨by show 0 < m.r.g.xs.length; omega, by show 0 < m.r.g.ys.length; omega, by show m.r.g.xs.length ≤ _; omega, by show m.r.g.ys.length ≤ _; omega⟩
  · exact ⟨by show 0 < m.r.p.xs.length; omega, by show 0 < m.r.p.ys.length; omega, by show m.r.p.xs.length ≤ _; omega, by show m.r.p.ys.length ≤ _; omega⟩
def roS0 (r : Ro) : Site := { base := 0, blks := [{ z := 26, els := [r.row], ty := 27 }] }
def aiS0 (a : Ai) : Site := { base := 0, blks := [{ z := 8, els := [a.row], ty := 31 }] }
theorem mg_air {m : Ma} {s : Sp} (h : rotB m.r = true) {k : Nat} {x : Sp} (hx : (aiL m.a)[k]? = some x) (hs : spN x = true) : mgE m s = 21 := by
  have : (aiL m.a).any spN = true := List.any_eq_true.2 ⟨x, List.mem_of_getElem? hx, hs⟩
  simp only [mgE, h, this, if_true]
noncomputable abbrev E42 : Env := { P := Tryz.prog, fn := tbl [(73, .pure rotS), (74, .pure vaS), (76, .pure nvS), (75, .pure fspanS), (43, .pure mtS), (78, .pure nlS), (77, .pure flanS)], own := [], key := 4200, nt := 42 }
theorem b42 : PureBody E42 [] Tryz.f42 chS := by
  refine pb ?_
  rintro ⟨m, s⟩ hP
  have hP : RoP m.r := hP
  have hE : rotE m.r = if rotB m.r = true then 0 else 20 := rfl
  cases h1 : rotB m.r
  · have hz : mgE m s = 20 := by simp [mgE, h1]
    rw [h1] at hE
    simp -dsimp at hE
    simp -dsimp [Tryz.f42, E42, tabF, maI, spI, Sp.row]
    repeat' (first | omega | (simp -dsimp [E42, ri, cellp, ints, roE_dec, hP, hE, hz, h1, chE_dec, Sp.row]) | (refine Also.intro ?_ fun _ => ?_) | (refine Hold.intro fun _ => ?_) | (refine And.intro ?_ ?_))
  rw [h1] at hE
  simp -dsimp at hE
  have hL := aiL_rows m.a
  have hlen : (aiL m.a).length = 4 := rfl
  simp -dsimp [Tryz.f42, E42, tabF, maI, spI, Sp.row]
  repeat' (first | omega | (simp -dsimp [E42, ri, cellp, ints, roE_dec, hP, hE, hlen, chE_dec, Sp.row]) | (refine Also.intro ?_ fun _ => ?_) | (refine Hold.intro fun _ => ?_) | (refine And.intro ?_ ?_))
  rw [hL]
  refine awp_loop [28, 29, 30, 11, 31, 32, 33, 8, 34, 27] (fun k : { k : Nat // k ≤ 4 ∧ ∀ j x, j < k → (aiL m.a)[j]? = some x → spN x = false } => [(27, (true, .int .i64 k.1))]) (fun k => hps [(4211, { base := k.1, blks := [] }), (4205, aiS0 m.a), (4204, roS0 m.r)] noH) (fun k => 4 - k.1) ⟨0, by omega, fun _ _ h => by omega⟩ ?_ ?_ ?_
  · simp [okAll, okv]
  · exact (by (try simp -dsimp only [hpush_noH, hpush_hps, hps_over]); refine hle_hps ?_; simp -dsimp [allK, roS0, aiS0]; repeat' (first | (refine And.intro ?_ ?_) | (refine sLe.same ?_ ?_ <;> (simp; done)) | (refine sLe.clear ?_ ?_ <;> (first | (simp; done) | (simp; omega))) | (refine sLe.drop 1 ?_ ?_ ?_ <;> (simp; done))))
  rintro ⟨k, hk, hall⟩
  dsimp only
  by_cases hk1 : k < 4
  · have hki : (k : Int) < 4 := by omega
    have hkl : k < (aiL m.a).length := by omega
    have wk : IntKind.wrap .i64 ((k : Int) + 1) = (k + 1 : Nat) := wrap_id (by omega) (by omega)
    obtain ⟨x, hx, hx'⟩ := get_ex hkl
    have hd : decC spE [.agg [.int .i64 x.lo, .int .i64 x.hi]] = x := spE_dec x
    cases hw : spN x
    · simp -dsimp [hki]
      repeat' (first | omega | (simp -dsimp [E42, ri, cellp, ints, hki, hk1, hkl, hlen, hx, hx', hw, wk, hd, Sp.row, roS0, aiS0]) | (refine Also.intro ?_ fun _ => ?_) | (refine Hold.intro fun _ => ?_) | (refine And.intro ?_ ?_))
      refine ⟨k + 1, tle_chain rfl ?_, ?_, ⟨by omega, fun j y hj hy => ?_⟩, by omega⟩
      · simp [okAll, okv]
      · exact (by (try simp -dsimp only [hpush_noH, hpush_hps, hps_over]); refine hle_hps ?_; simp -dsimp [allK, roS0, aiS0]; repeat' (first | (refine And.intro ?_ ?_) | (refine sLe.same ?_ ?_ <;> (simp; done)) | (refine sLe.clear ?_ ?_ <;> (first | (simp; done) | (simp; omega))) | (refine sLe.drop 1 ?_ ?_ ?_ <;> (simp; done))))
      · by_cases hjk : j = k
        · subst hjk; rw [hx] at hy; cases hy; exact hw
        · exact hall j y (by omega) hy
    · have hz := mg_air (s := s) h1 hx hw
      simp -dsimp [hki]
      repeat' (first | omega | (simp -dsimp [E42, ri, cellp, ints, hki, hk1, hkl, hlen, hx, hx', hw, hz, wk, hd, Sp.row, roS0, aiS0]) | (refine Also.intro ?_ fun _ => ?_) | (refine Hold.intro fun _ => ?_) | (refine And.intro ?_ ?_))
  have hkn : ((k : Int) < 4) = False := eq_false (by omega)
  have : k = 4 := by omega
  subst this
  have hany : (aiL m.a).any spN = false := List.any_eq_false.2 fun x hx => by
    obtain ⟨j, hj, e⟩ := List.getElem_of_mem hx
    rw [hall j x (by omega) (by rw [List.getElem?_eq_getElem hj, e])]; simp
  have hz : mgE m s = if (spN s || (mtL m s).any lkN) = true then 1 else 0 := by simp [mgE, h1, hany]
  have hF := mtL_lk s h1
  have e1 : decC fspsE [.sl 2 [[.int .i64 s.lo, .int .i64 s.hi]], .fn 76 []] = [s] := fspsE_dec [s]
  have e2 := mtE_dec m s
  have e3 := flkE_dec (mtL m s)
  cases g1 : spN s
  · cases g2 : (mtL m s).any lkN
    all_goals
      rw [g1, g2] at hz
      simp -dsimp at hz
      simp -dsimp [hkn]
      repeat' (first | omega | (simp -dsimp [E42, ri, cellp, ints, hkn, roS0, aiS0, hz, hF, maI, spI, e1, e2, e3, g1, g2, Sp.row]) | (refine Also.intro ?_ fun _ => ?_) | (refine Hold.intro fun _ => ?_) | (refine And.intro ?_ ?_))
  · rw [g1] at hz
    simp -dsimp at hz
    simp -dsimp [hkn]
    repeat' (first | omega | (simp -dsimp [E42, ri, cellp, ints, hkn, roS0, aiS0, hz, hF, maI, spI, e1, e2, e3, g1, Sp.row]) | (refine Also.intro ?_ fun _ => ?_) | (refine Hold.intro fun _ => ?_) | (refine And.intro ?_ ?_))
theorem ok42 : FnOK Tryz.prog 42 (.pure chS) := pure_fn (E := E42) rfl (.cons ok73 (.cons ok74 (.cons ok76 (.cons ok75 (.cons ok43 (.cons ok78 (.cons ok77 .nil))))))) (ok := []) (fn := Tryz.f42) (by kernel_rfl) (by kernel_rfl) (by kernel_rfl) (by kernel_rfl) rfl (fun _ _ => by simp) b42
end Go.Sx.Rot
end
section
/- Rotor: Margin. No conditions. -/
set_option linter.unusedSimpArgs false
set_option linter.unusedSectionVars false
set_option maxRecDepth 100000
set_option maxHeartbeats 4000000
namespace Go.Sx.Rot
open Go.Proofs Go.Sx Go.Sx.Tab
attribute [local irreducible] HLe
attribute [local simp] hps_app

structure MgF (m : Ma) (s : Sp) : Prop where
  h : bdErr (hovD m) = 0
  g : bdErr (groD m s) = 0
  p : bdErr (powD m) = 0
  vh : Vin m.r.h 0 100000
  vg : Vin m.r.g 0 100
  vp : Vin m.r.p 0 100000
theorem mg_facts {m : Ma} {s : Sp} (h : mgE m s = 0) : MgF m s := by
  unfold mgE at h
  split at h
  case isFalse => cases h
  rename_i h1
  split at h
  case isTrue => cases h
  rename_i h2
  split at h
  case isTrue => cases h
  rename_i h3
  simp only [rotB, Bool.and_eq_true, List.all_eq_true] at h1
  have c0 := h1.1 ⟨m.r.h, 0, 100000⟩ (by simp [limL])
  have c1 := h1.1 ⟨m.r.g, 0, 100⟩ (by simp [limL])
  have c3 := h1.1 ⟨m.r.p, 0, 100000⟩ (by simp [limL])
  have t0 : tbB m.r.h = true := by simp only [limB, Bool.and_eq_true] at c0; exact c0.1
  have t1 : tbB m.r.g = true := by simp only [limB, Bool.and_eq_true] at c1; exact c1.1
  have t3 : tbB m.r.p = true := by simp only [limB, Bool.and_eq_true] at c3; exact c3.1
  simp only [aiL, List.any_cons, List.any_nil, Bool.or_false, Bool.or_eq_true, not_or, Bool.not_eq_true] at h2
  simp only [mtL, List.any_cons, List.any_nil, Bool.or_false, Bool.or_eq_true, not_or, Bool.not_eq_true, lkN, Bool.not_eq_false', lkB] at h3
  obtain ⟨w, t, hh, v⟩ := h2
  obtain ⟨sN, k0, k1, k2⟩ := h3
  refine ⟨?_, ?_, ?_, limB_vin c0, limB_vin c1, limB_vin c3⟩
  · unfold bdErr
    rw [if_pos (show tbB (hovD m).t = true from t0), if_neg (by simp [hovD, w, t]), if_pos k0]
  · unfold bdErr
    rw [if_pos (show tbB (groD m s).t = true from t1), if_neg (by simp [groD, sN, v]), if_pos k1]
  · unfold bdErr
    rw [if_pos (show tbB (powD m).t = true from t3), if_neg (by simp [powD, t, hh]), if_pos k2]
theorem bnd_of {d : BdD} (h : bdErr d = 0) {L H : Int} (hv : Vin d.t L H) : L ≤ (bndF d).lo ∧ (bndF d).lo ≤ (bndF d).hi ∧ (bndF d).hi ≤ H := by
  rw [bndF, if_pos h]
  have a := bound_vals h hv
  exact ⟨a.1, bound_le h, a.2⟩
theorem mg_ne {m : Ma} {s : Sp} (hP : RoP m.r) (h : mgE m s = 0) : NeP (m, s) := by
  have f := mg_facts h
  have a := bnd_of f.h (L := 0) (H := 100000) f.vh
  have b := bnd_of f.g (L := 0) (H := 100) f.vg
  have c := bnd_of f.p (L := 0) (H := 100000) f.vp
  exact ⟨hP.l ⟨m.r.h, 0, 100000⟩ (by simp [limL]), hP.l ⟨m.r.g, 0, 100⟩ (by simp [limL]), hP.l ⟨m.r.p, 0, 100000⟩ (by simp [limL]),
    ⟨by simp only; omega, by simp only; omega, by simp only; omega, by simp only; omega⟩, ⟨by simp only; omega, by simp only; omega, by simp only; omega, by simp only; omega⟩, ⟨by simp only; omega, by simp only; omega, by simp only; omega, by simp only; omega⟩⟩
noncomputable abbrev ckmS : PSpec := mkP mbE (fun d => RoP d.1.r) fun d => .int .i64 (mgE d.1 d.2)
noncomputable abbrev E26 : Env := { P := Tryz.prog, fn := tbl [(42, .pure chS), (43, .pure mtS)], own := [], key := 2600, nt := 13 }
theorem b26 : PureBody E26 [] Tryz.f26 ckmS := by
  refine pb ?_
  rintro ⟨m, s⟩ hP
  have hP : RoP m.r := hP
  have hd := chE_dec m s
  simp -dsimp [Tryz.f26, E26, Sp.row]
  repeat' (first | omega | (simp -dsimp [E26, ri, cellp, ints, Sp.row, hP, hd, tabF, maI, spI]) | (refine Also.intro ?_ fun _ => ?_) | (refine Hold.intro fun _ => ?_) | (refine And.intro ?_ ?_))
theorem ok26 : FnOK Tryz.prog 26 (.pure ckmS) := pure_fn (E := E26) rfl (.cons ok42 (.cons ok43 .nil)) (ok := []) (fn := Tryz.f26) (by kernel_rfl) (by kernel_rfl) (by kernel_rfl) (by kernel_rfl) rfl (fun _ _ => by simp) b26
@[simp] def mrE (d : Ma × Sp) : List V := [.agg d.1.r.row, .agg d.1.a.row, .agg d.2.row]
theorem mrE_inj (a b : Ma × Sp) (h : mrE a = mrE b) : a = b := by
  obtain ⟨⟨a1, a2⟩, a3⟩ := a; obtain ⟨⟨b1, b2⟩, b3⟩ := b
  simp only [mrE, List.cons.injEq, V.agg.injEq, and_true] at h
  rw [show a1 = b1 from Ro.row_inj _ _ h.1, show a2 = b2 from Ai.row_inj _ _ h.2.1, show a3 = b3 from Sp.row_inj _ _ h.2.2]
theorem mrE_dec (m : Ma) (s : Sp) : decC mrE [.agg m.r.row, .agg m.a.row, .agg [.int .i64 s.lo, .int .i64 s.hi]] = (m, s) := decC_eq mrE_inj (m, s)
theorem ro_tk (r : Ro) (z : List V) : List.take 26 (r.row ++ z) = r.row := List.take_left' rfl
theorem ro_dr (r : Ro) (z : List V) : List.drop 34 (r.row ++ z) = z.drop 8 := rfl
theorem ma_mk (m : Ma) : m.r.row ++ m.a.row = m.row := rfl
noncomputable abbrev mrgS : PSpec := mkP mrE (fun d => RoP d.1.r) fun d => .tup [.int .i64 (if mgE d.1 d.2 = 0 then mgnF d.1 d.2 else 0), .int .i64 (mgE d.1 d.2)]
noncomputable abbrev E14 : Env := { P := Tryz.prog, fn := tbl [(26, .pure ckmS), (27, .pure mgnS)], own := [], key := 1400, nt := 22 }
theorem b14 : PureBody E14 [] Tryz.f14 mrgS := by
  refine pb ?_
  rintro ⟨m, s⟩ hP
  have hP : RoP m.r := hP
  have hd := mbE_dec m s
  have hm := ma_mk m
  by_cases h : mgE m s = 0
  · have hN := mg_ne hP h
    simp -dsimp [Tryz.f14, E14, Sp.row]
    repeat' (first | omega | (simp -dsimp [E14, ri, cellp, ints, Sp.row, hP, hd, ro_tk, ro_dr, hm, h, hN]) | (refine Also.intro ?_ fun _ => ?_) | (refine Hold.intro fun _ => ?_) | (refine And.intro ?_ ?_))
    exact List.all_eq_true.1 (ro_cell m.r)
  · simp -dsimp [Tryz.f14, E14, Sp.row]
    repeat' (first | omega | (simp -dsimp [E14, ri, cellp, ints, Sp.row, hP, hd, ro_tk, ro_dr, hm, h]) | (refine Also.intro ?_ fun _ => ?_) | (refine Hold.intro fun _ => ?_) | (refine And.intro ?_ ?_))
    exact List.all_eq_true.1 (ro_cell m.r)
theorem ok14 : FnOK Tryz.prog 14 (.pure mrgS) := pure_fn (E := E14) rfl (.cons ok26 (.cons ok27 .nil)) (ok := []) (fn := Tryz.f14) (by kernel_rfl) (by kernel_rfl) (by kernel_rfl) (by kernel_rfl) rfl (fun _ _ => by simp) b14
end Go.Sx.Rot
end
