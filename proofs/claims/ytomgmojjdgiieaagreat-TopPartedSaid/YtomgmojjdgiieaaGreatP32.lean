/- A part of a proof; no conditions. -/
import Derived.Test.YtomgmojjdgiieaaGreatP31
set_option linter.unusedSimpArgs false
set_option linter.unusedVariables false
set_option linter.unusedSectionVars false
section
/- Rotor: the errors of a rotor in an air, for the tables that are looked up. No conditions. -/
set_option linter.unusedSimpArgs false
set_option linter.unusedSectionVars false
set_option maxRecDepth 100000
set_option maxHeartbeats 8000000
namespace Go.Sx.Rot
open Go.Proofs Go.Sx Go.Sx.Tab
attribute [local irreducible] HLe
attribute [local simp] hps_app
def aiL (a : Ai) : List Sp := [a.w, a.t, a.h, a.v]
theorem aiL_rows (a : Ai) : ([[.int .i64 a.w.lo, .int .i64 a.w.hi], [.int .i64 a.t.lo, .int .i64 a.t.hi], [.int .i64 a.h.lo, .int .i64 a.h.hi], [.int .i64 a.v.lo, .int .i64 a.v.hi]] : List (List V)) = (aiL a).map Sp.row := rfl
def ckE (m : Ma) (k : Kd) : Int := if rotB m.r = true then (if (aiL m.a).any spN = true then 21 else if ((kdS k).any spN || (kdL m k).any lkN) = true then 1 else 0) else 20
def ckV (m : Ma) (k : Kd) : List V := [.agg m.r.row, .agg m.a.row, .sl 2 ((kdS k).map Sp.row), kdF m k]
@[simp] theorem ckV_len (m : Ma) (k : Kd) : (ckV m k).length = 4 := rfl
theorem ckV_inj (a b : Ma × Kd) (h : ckV a.1 a.2 = ckV b.1 b.2) : a = b := by
  obtain ⟨⟨a1, a2⟩, a3⟩ := a; obtain ⟨⟨b1, b2⟩, b3⟩ := b
  simp only [ckV, List.cons.injEq, V.agg.injEq, V.sl.injEq, true_and, and_true] at h
  obtain ⟨h1, h2, h3, h4⟩ := h
  have e1 : a1 = b1 := Ro.row_inj _ _ h1
  have e2 : a2 = b2 := Ai.row_inj _ _ h2
  have e3 := mapRow_inj Sp.row_inj h3
  cases a3 <;> cases b3 <;> simp only [kdS, List.cons.injEq, List.nil_eq, List.cons_ne_nil, and_true, reduceCtorEq, and_false] at e3
  · rw [e1, e2]
  · rw [e1, e2, e3]
  · rw [e1, e2, e3.1, e3.2]
noncomputable def ckDec (l : List V) : Ma × Kd := decC (fun d : Ma × Kd => ckV d.1 d.2) (l.map (dn 2))
theorem ck_has (m : Ma) : ckDec [.agg m.r.row, .agg m.a.row, .nil, .fn 25 [.ip 34 [m.row] 0 0]] = (m, .has) := decC_eq (enc := fun d : Ma × Kd => ckV d.1 d.2) ckV_inj (m, .has)
theorem ck_lvl (m : Ma) (s : Sp) : ckDec [.agg m.r.row, .agg m.a.row, .sl 2 [[.int .i64 s.lo, .int .i64 s.hi]], .fn 117 [.ip 34 [m.row] 0 0, .ip 2 [[.int .i64 s.lo, .int .i64 s.hi]] 0 0]] = (m, .lvl s) := decC_eq (enc := fun d : Ma × Kd => ckV d.1 d.2) ckV_inj (m, .lvl s)
theorem ck_wk (m : Ma) (s t : Sp) : ckDec [.agg m.r.row, .agg m.a.row, .sl 2 [[.int .i64 s.lo, .int .i64 s.hi], [.int .i64 t.lo, .int .i64 t.hi]], .fn 92 [.ip 34 [m.row] 0 0, .ip 2 [[.int .i64 s.lo, .int .i64 s.hi]] 0 0]] = (m, .wk s t) := decC_eq (enc := fun d : Ma × Kd => ckV d.1 d.2) ckV_inj (m, .wk s t)
noncomputable abbrev ckS : PSpec := { dom := Ma × Kd, enc := fun d => ckV d.1 d.2, dec := ckDec, pre := fun d => RoP d.1.r, res := fun d => .int .i64 (ckE d.1 d.2) }
theorem kd_lk {m : Ma} (k : Kd) (h : rotB m.r = true) : FlP (kdL m k) := by
  simp only [rotB, Bool.and_eq_true, List.all_eq_true] at h
  have hb : ∀ x ∈ limL m.r, 2 ≤ x.t.xs.length ∧ x.t.xs.length ≤ 12 ∧ 2 ≤ x.t.ys.length ∧ x.t.ys.length ≤ 12 := fun x hx => by
    have := h.1 x hx
    simp only [limB, tbB, Bool.and_eq_true] at this
    have a := axB_len this.1.1
    have b := axB_len this.1.2.1
    omega
  have b0 := hb ⟨m.r.l, 0, 100000⟩ (by simp [limL])
  have b1 := hb ⟨m.r.rl, 0, 10000⟩ (by simp [limL])
  have b3 := hb ⟨m.r.p, 0, 100000⟩ (by simp [limL])
  simp only at b0 b1 b3
  refine ⟨by cases k <;> simp [kdL], fun d hd => ?_⟩
  cases k <;> simp only [kdL, List.mem_cons, List.not_mem_nil, or_false] at hd <;> subst hd
  · exact ⟨by show 0 < m.r.p.xs.length; omega, by show 0 < m.r.p.ys.length; omega, by show m.r.p.xs.length ≤ _; omega, by show m.r.p.ys.length ≤ _; omega⟩
  · exact ⟨by show 0 < m.r.l.xs.length; omega, by show 0 < m.r.l.ys.length; omega, by show m.r.l.xs.length ≤ _; omega, by show m.r.l.ys.length ≤ _; omega⟩
  · exact ⟨by show 0 < m.r.rl.xs.length; omega, by show 0 < m.r.rl.ys.length; omega, by show m.r.rl.xs.length ≤ _; omega, by show m.r.rl.ys.length ≤ _; omega⟩
theorem ck_air {m : Ma} {kd : Kd} (h : rotB m.r = true) {k : Nat} {x : Sp} (hx : (aiL m.a)[k]? = some x) (hs : spN x = true) : ckE m kd = 21 := by
  have : (aiL m.a).any spN = true := List.any_eq_true.2 ⟨x, List.mem_of_getElem? hx, hs⟩
  simp only [ckE, h, this, if_true]
noncomputable abbrev fspanT : PSpec := { dom := List Sp, enc := fspsE, dec := fun l => decC fspsE (l.map (dn 2)), pre := fun d => d.length ≤ 1000000, res := fun d => .bool (d.any spN) }
noncomputable abbrev E24 : Env := { P := Tryz.prog, fn := tbl [(49, .pure rotS), (50, .pure vaS), (52, .pure nvS), (51, .pure fspanT), (25, .pure hasTS), (117, .pure lvlTS), (92, .pure wkTS), (54, .pure nlS), (53, .pure flanS)], own := [], key := 2400, nt := 42 }
theorem b24 : PureBody E24 [] Tryz.f24 ckS := by
  refine pb ?_
  rintro ⟨m, kd⟩ hP
  have hP : RoP m.r := hP
  have hE : rotE m.r = if rotB m.r = true then 0 else 20 := rfl
  have hd1 := ck_has m
  cases h1 : rotB m.r
  · have hz : ckE m kd = 20 := by simp [ckE, h1]
    rw [h1] at hE
    simp -dsimp at hE
    cases kd
    all_goals
      simp -dsimp [Tryz.f24, E24, ckV, kdS, kdF, maI, spI, Sp.row]
      repeat' (first | omega | (simp -dsimp [E24, ri, cellp, ints, roE_dec, hP, hE, hz, h1, Sp.row]) | (refine Also.intro ?_ fun _ => ?_) | (refine Hold.intro fun _ => ?_) | (refine And.intro ?_ ?_))
  rw [h1] at hE
  simp -dsimp at hE
  have hL := aiL_rows m.a
  have hlen : (aiL m.a).length = 4 := rfl
  have hF := kd_lk kd h1
  have tail : ((aiL m.a).any spN = false) → ckE m kd = if ((kdS kd).any spN || (kdL m kd).any lkN) = true then 1 else 0 := fun hany => by simp [ckE, h1, hany]
  have bad : ∀ {k : Nat} {x : Sp}, (aiL m.a)[k]? = some x → spN x = true → ckE m kd = 21 := fun hx hs => ck_air h1 hx hs
  generalize hgE : ckE m kd = EE at *
  cases kd
  all_goals
    simp -dsimp [Tryz.f24, E24, ckV, kdS, kdF, maI, spI, Sp.row]
    repeat' (first | omega | (simp -dsimp [E24, ri, cellp, ints, roE_dec, hP, hE, hlen, Sp.row]) | (refine Also.intro ?_ fun _ => ?_) | (refine Hold.intro fun _ => ?_) | (refine And.intro ?_ ?_))
    rw [hL]
    refine awp_loop [28, 29, 30, 11, 31, 32, 33, 8, 34, 27] (fun k : { k : Nat // k ≤ 4 ∧ ∀ j x, j < k → (aiL m.a)[j]? = some x → spN x = false } => [(27, (true, .int .i64 k.1))]) (fun k => hps [(2411, { base := k.1, blks := [] }), (2405, aiS0 m.a), (2404, roS0 m.r)] noH) (fun k => 4 - k.1) ⟨0, by omega, fun _ _ h => by omega⟩ ?_ ?_ ?_
    · simp [okAll, okv]
    · exact (by (try simp -dsimp only [hpush_noH, hpush_hps, hps_over]); refine hle_hps ?_; simp -dsimp [allK, roS0, aiS0]; repeat' (first | (refine And.intro ?_ ?_) | (refine sLe.same ?_ ?_ <;> (simp; done)) | (refine sLe.clear ?_ ?_ <;> (first | (simp; done) | (simp; omega))) | (refine sLe.drop 1 ?_ ?_ ?_ <;> (simp; done))))
    rintro ⟨k, hk, hall⟩
    dsimp only
    by_cases hk1 : k < 4
    · have hki : (k : Int) < 4 := by omega
      have hkl : k < (aiL m.a).length := by omega
      have wk : IntKind.wrap .i64 ((k : Int) + 1) = (k + 1 : Nat) := wrap_id (by omega) (by omega)
      obtain ⟨x, hx, hx'⟩ := get_ex hkl
      have hd : decC spE [.agg [.int .i64 x.lo, .int .i64 x.hi]] = x := spE_dec x
      cases hw : spN x
      · simp -dsimp [hki]
        repeat' (first | omega | (simp -dsimp [E24, ri, cellp, ints, hki, hk1, hkl, hlen, hx, hx', hw, wk, hd, Sp.row, roS0, aiS0]) | (refine Also.intro ?_ fun _ => ?_) | (refine Hold.intro fun _ => ?_) | (refine And.intro ?_ ?_))
        refine ⟨k + 1, tle_chain rfl ?_, ?_, ⟨by omega, fun j y hj hy => ?_⟩, by omega⟩
        · simp [okAll, okv]
        · exact (by (try simp -dsimp only [hpush_noH, hpush_hps, hps_over]); refine hle_hps ?_; simp -dsimp [allK, roS0, aiS0]; repeat' (first | (refine And.intro ?_ ?_) | (refine sLe.same ?_ ?_ <;> (simp; done)) | (refine sLe.clear ?_ ?_ <;> (first | (simp; done) | (simp; omega))) | (refine sLe.drop 1 ?_ ?_ ?_ <;> (simp; done))))
        · by_cases hjk : j = k
          · subst hjk; rw [hx] at hy; cases hy; exact hw
          · exact hall j y (by omega) hy
      · have hz := bad hx hw
        simp -dsimp [hki]
        repeat' (first | omega | (simp -dsimp [E24, ri, cellp, ints, hki, hk1, hkl, hlen, hx, hx', hw, hz, wk, hd, Sp.row, roS0, aiS0]) | (refine Also.intro ?_ fun _ => ?_) | (refine Hold.intro fun _ => ?_) | (refine And.intro ?_ ?_))
    have hkn : ((k : Int) < 4) = False := eq_false (by omega)
    have : k = 4 := by omega
    subst this
    have hz := tail (List.any_eq_false.2 fun x hx => by
      obtain ⟨j, hj, e⟩ := List.getElem_of_mem hx
      rw [hall j x (by omega) (by rw [List.getElem?_eq_getElem hj, e])]; simp)
    simp only [kdS, kdL, List.any_cons, List.any_nil, Bool.or_false, Bool.false_or] at hz
  · have e1 : decC fspsE [.sl 2 [], .fn 52 []] = [] := fspsE_dec []
    have e2 := maI_dec m
    have e3 : decC flkE [.sl 7 [lkR (powD m)], .fn 54 []] = [powD m] := flkE_dec [powD m]
    have hF' : FlP [powD m] := hF
    cases g2 : lkN (powD m)
    all_goals
      rw [g2] at hz
      simp -dsimp at hz
      simp -dsimp [hkn]
      repeat' (first | omega | (simp -dsimp [E24, ri, cellp, ints, hkn, roS0, aiS0, hz, hF', maI, spI, e1, e2, e3, g2, Sp.row]) | (refine Also.intro ?_ fun _ => ?_) | (refine Hold.intro fun _ => ?_) | (refine And.intro ?_ ?_))
  · rename_i s
    have e1 : decC fspsE [.sl 2 [[.int .i64 s.lo, .int .i64 s.hi]], .fn 52 []] = [s] := fspsE_dec [s]
    have e2 := mtE_dec m s
    have e3 : decC flkE [.sl 7 [lkR (levD m s)], .fn 54 []] = [levD m s] := flkE_dec [levD m s]
    have hF' : FlP [levD m s] := hF
    cases g1 : spN s
    · cases g2 : lkN (levD m s)
      all_goals
        rw [g1, g2] at hz
        simp -dsimp at hz
        simp -dsimp [hkn]
        repeat' (first | omega | (simp -dsimp [E24, ri, cellp, ints, hkn, roS0, aiS0, hz, hF', maI, spI, e1, e2, e3, g1, g2, Sp.row]) | (refine Also.intro ?_ fun _ => ?_) | (refine Hold.intro fun _ => ?_) | (refine And.intro ?_ ?_))
    · rw [g1] at hz
      simp -dsimp at hz
      simp -dsimp [hkn]
      repeat' (first | omega | (simp -dsimp [E24, ri, cellp, ints, hkn, roS0, aiS0, hz, hF', maI, spI, e1, e2, e3, g1, Sp.row]) | (refine Also.intro ?_ fun _ => ?_) | (refine Hold.intro fun _ => ?_) | (refine And.intro ?_ ?_))
  · rename_i s t
    have e1 : decC fspsE [.sl 2 [[.int .i64 s.lo, .int .i64 s.hi], [.int .i64 t.lo, .int .i64 t.hi]], .fn 52 []] = [s, t] := fspsE_dec [s, t]
    have e2 := mtE_dec m s
    have e3 : decC flkE [.sl 7 [lkR (rngD m s)], .fn 54 []] = [rngD m s] := flkE_dec [rngD m s]
    have hF' : FlP [rngD m s] := hF
    have hz' : EE = if ((spN s || spN t) || lkN (rngD m s)) = true then 1 else 0 := hz
    clear hz
    cases g1 : (spN s || spN t)
    · cases g2 : lkN (rngD m s)
      all_goals
        rw [g1, g2] at hz'
        simp -dsimp at hz'
        simp -dsimp at g1
        simp -dsimp [hkn]
        repeat' (first | omega | (simp -dsimp [E24, ri, cellp, ints, hkn, roS0, aiS0, hz', hF', maI, spI, e1, e2, e3, g1, g2, Sp.row]) | (refine Also.intro ?_ fun _ => ?_) | (refine Hold.intro fun _ => ?_) | (refine And.intro ?_ ?_))
    · rw [g1] at hz'
      simp -dsimp at hz'
      simp -dsimp at g1
      simp -dsimp [hkn]
      repeat' (first | omega | (simp -dsimp [E24, ri, cellp, ints, hkn, roS0, aiS0, hz', hF', maI, spI, e1, e2, e3, g1, Sp.row]) | (refine Also.intro ?_ fun _ => ?_) | (refine Hold.intro fun _ => ?_) | (refine And.intro ?_ ?_))
theorem ok24 : FnOK Tryz.prog 24 (.pure ckS) := pure_fn (E := E24) rfl (.cons ok49 (.cons ok50 (.cons ok52 (.cons (fn_dec _ ok51) (.cons ok25 (.cons ok117 (.cons ok92 (.cons ok54 (.cons ok53 .nil))))))))) (ok := []) (fn := Tryz.f24) (by kernel_rfl) (by kernel_rfl) (by kernel_rfl) (by kernel_rfl) rfl (fun _ _ => by simp) b24
end Go.Sx.Rot
end
section
/- The reference's layer 2: CheckAir, lies, bound, up. No conditions. -/
set_option linter.unusedSimpArgs false
set_option linter.unusedSectionVars false
set_option maxRecDepth 100000
set_option maxHeartbeats 8000000
namespace Go.Sx.Rot
open Go.Proofs Go.Sx Go.Sx.Tab
attribute [local irreducible] HLe
attribute [local simp] hps_app
def airE (m : Ma) : Int := if rotB m.r = true then (if (aiL m.a).any spN = true then 21 else 0) else 20
@[simp] def arE (m : Ma) : List V := [.agg m.r.row, .agg m.a.row]
theorem arE_inj (a b : Ma) (h : arE a = arE b) : a = b := by
  obtain ⟨a1, a2⟩ := a; obtain ⟨b1, b2⟩ := b
  simp only [arE, List.cons.injEq, V.agg.injEq, and_true] at h
  rw [show a1 = b1 from Ro.row_inj _ _ h.1, show a2 = b2 from Ai.row_inj _ _ h.2]
theorem arE_dec (m : Ma) : decC arE [.agg m.r.row, .agg m.a.row] = m := decC_eq arE_inj m
noncomputable abbrev airS : PSpec := mkP arE (fun m => RoP m.r) fun m => .int .i64 (airE m)
noncomputable abbrev E32 : Env := { P := Tryz.prog, fn := tbl [(62, .pure rotS), (64, .pure valS)], own := [], key := 3200, nt := 33 }
theorem b32 : PureBody E32 [] Tryz.f32 airS := by
  refine pb ?_
  rintro m hP
  have hE : rotE m.r = if rotB m.r = true then 0 else 20 := rfl
  cases h1 : rotB m.r
  · have hz : airE m = 20 := by simp [airE, h1]
    rw [h1] at hE
    simp -dsimp at hE
    simp -dsimp [Tryz.f32, E32]
    repeat' (first | omega | (simp -dsimp [E32, ri, cellp, ints, roE_dec, hP, hE, hz]) | (refine Also.intro ?_ fun _ => ?_) | (refine Hold.intro fun _ => ?_) | (refine And.intro ?_ ?_))
  rw [h1] at hE
  simp -dsimp at hE
  have d (x : Sp) : decC spE [.agg [.int .i64 x.lo, .int .i64 x.hi]] = x := spE_dec x
  cases e1 : spN m.a.w
  case true =>
    have hz : airE m = 21 := by simp [airE, h1, aiL, e1]
    simp -dsimp [Tryz.f32, E32]
    repeat' (first | omega | (simp -dsimp [E32, ri, cellp, ints, roE_dec, hP, hE, d, Sp.row, e1, hz]) | (refine Also.intro ?_ fun _ => ?_) | (refine Hold.intro fun _ => ?_) | (refine And.intro ?_ ?_))
  cases e2 : spN m.a.t
  case true =>
    have hz : airE m = 21 := by simp [airE, h1, aiL, e2]
    simp -dsimp [Tryz.f32, E32]
    repeat' (first | omega | (simp -dsimp [E32, ri, cellp, ints, roE_dec, hP, hE, d, Sp.row, e1, e2, hz]) | (refine Also.intro ?_ fun _ => ?_) | (refine Hold.intro fun _ => ?_) | (refine And.intro ?_ ?_))
  cases e3 : spN m.a.h
  case true =>
    have hz : airE m = 21 := by simp [airE, h1, aiL, e3]
    simp -dsimp [Tryz.f32, E32]
    repeat' (first | omega | (simp -dsimp [E32, ri, cellp, ints, roE_dec, hP, hE, d, Sp.row, e1, e2, e3, hz]) | (refine Also.intro ?_ fun _ => ?_) | (refine Hold.intro fun _ => ?_) | (refine And.intro ?_ ?_))
  cases e4 : spN m.a.v
  all_goals
    have hz : airE m = if spN m.a.v = true then 21 else 0 := by simp [airE, h1, aiL, e1, e2, e3]
    rw [e4] at hz
    simp -dsimp at hz
    simp -dsimp [Tryz.f32, E32]
    repeat' (first | omega | (simp -dsimp [E32, ri, cellp, ints, roE_dec, hP, hE, d, Sp.row, e1, e2, e3, e4, hz]) | (refine Also.intro ?_ fun _ => ?_) | (refine Hold.intro fun _ => ?_) | (refine And.intro ?_ ?_))
theorem ok32 : FnOK Tryz.prog 32 (.pure airS) := pure_fn (E := E32) rfl (.cons ok62 (.cons ok64 .nil)) (ok := []) (fn := Tryz.f32) (by kernel_rfl) (by kernel_rfl) (by kernel_rfl) (by kernel_rfl) rfl (fun _ _ => by simp) b32
end Go.Sx.Rot
end
section
/- Rotor: bounds of tables and rotors, copies. No conditions. -/
set_option linter.unusedSimpArgs false
set_option linter.unusedSectionVars false
set_option maxRecDepth 100000
set_option maxHeartbeats 8000000
namespace Go.Sx.Rot
open Go.Proofs Go.Sx Go.Sx.Tab
attribute [local irreducible] HLe
attribute [local simp] hps_app
def rowN (r : List Int) : Bool := decide (15 < r.length)
def farT (t : Tb) : Bool := decide (15 < t.xs.length) || (decide (15 < t.ys.length) || (decide (15 < t.vs.length) || t.vs.any rowN))
noncomputable abbrev farS : PSpec := mkP tbE (fun _ => True) fun t => .bool (farT t)
noncomputable abbrev E30 : Env := { P := Tryz.prog, fn := tbl [], own := [], key := 3000, nt := 34 }
theorem b30 : PureBody E30 [] Tryz.f30 farS := by
  refine pb ?_
  rintro t _
  by_cases h1 : 15 < t.xs.length
  · have hz : farT t = true := by simp [farT, h1]
    have h1' : ((15 : Int) < t.xs.length) = True := eq_true (by omega)
    simp -dsimp [Tryz.f30, E30, tabR]
    repeat' (first | omega | (simp -dsimp [E30, ri, cellp, ints, h1', hz]) | (refine Also.intro ?_ fun _ => ?_) | (refine Hold.intro fun _ => ?_) | (refine And.intro ?_ ?_))
  have h1' : ((15 : Int) < t.xs.length) = False := eq_false (by omega)
  by_cases h2 : 15 < t.ys.length
  · have hz : farT t = true := by simp [farT, h2]
    have h2' : ((15 : Int) < t.ys.length) = True := eq_true (by omega)
    simp -dsimp [Tryz.f30, E30, tabR]
    repeat' (first | omega | (simp -dsimp [E30, ri, cellp, ints, h1', h2', hz]) | (refine Also.intro ?_ fun _ => ?_) | (refine Hold.intro fun _ => ?_) | (refine And.intro ?_ ?_))
  have h2' : ((15 : Int) < t.ys.length) = False := eq_false (by omega)
  by_cases h3 : 15 < t.vs.length
  · have hz : farT t = true := by simp [farT, h3]
    have h3' : ((15 : Int) < t.vs.length) = True := eq_true (by omega)
    simp -dsimp [Tryz.f30, E30, tabR]
    repeat' (first | omega | (simp -dsimp [E30, ri, cellp, ints, h1', h2', h3', hz]) | (refine Also.intro ?_ fun _ => ?_) | (refine Hold.intro fun _ => ?_) | (refine And.intro ?_ ?_))
  have h3' : ((15 : Int) < t.vs.length) = False := eq_false (by omega)
  have hE : farT t = t.vs.any rowN := by simp [farT, h1, h2, h3]
  simp -dsimp [Tryz.f30, E30, tabR]
  repeat' (first | omega | (simp -dsimp [E30, ri, cellp, ints, h1', h2', h3']) | (refine Also.intro ?_ fun _ => ?_) | (refine Hold.intro fun _ => ?_) | (refine And.intro ?_ ?_))
  refine awp_loop [20, 21, 22, 23, 24, 27, 28, 29, 30, 31, 32, 33, 2, 25, 26, 3] (fun k : { k : Nat // k ≤ t.vs.length ∧ (t.vs.take k).any rowN = false } => [(3, (true, .int .i64 k.1))]) (fun _ => hps [(3001, tbS t)] noH) (fun k => t.vs.length - k.1) ⟨0, by omega, by simp⟩ ?_ ?_ ?_
  · simp [okAll, okv]
  · exact (by (try simp -dsimp only [hpush_noH, hpush_hps, hps_over]); refine hle_hps ?_; simp -dsimp [allK, tbS]; repeat' (first | (refine And.intro ?_ ?_) | (refine sLe.same ?_ ?_ <;> (simp; done)) | (refine sLe.clear ?_ ?_ <;> (first | (simp; done) | (simp; omega))) | (refine sLe.drop 1 ?_ ?_ ?_ <;> (simp; done))))
  rintro ⟨k, hk, hall⟩
  dsimp only
  by_cases hk1 : k < t.vs.length
  · have hki : (k : Int) < t.vs.length := by omega
    have wk : IntKind.wrap .i64 ((k : Int) + 1) = (k + 1 : Nat) := wrap_id (by omega) (by omega)
    obtain ⟨x, hx, hx'⟩ := get_ex hk1
    by_cases c : 15 < x.length
    · have ci : ((15 : Int) < x.length) = True := eq_true (by omega)
      have hz : farT t = true := by
        rw [hE, List.any_eq_true]
        exact ⟨x, hx' ▸ List.getElem_mem hk1, by simp [rowN, c]⟩
      simp -dsimp [hki]
      repeat' (first | omega | (simp -dsimp [E30, ri, cellp, ints, hki, hk1, hx, hx', rwI, tbS, c, ci, hz]) | (refine Also.intro ?_ fun _ => ?_) | (refine Hold.intro fun _ => ?_) | (refine And.intro ?_ ?_))
    · have ci : ((15 : Int) < x.length) = False := eq_false (by omega)
      simp -dsimp [hki]
      repeat' (first | omega | (simp -dsimp [E30, ri, cellp, ints, hki, hk1, hx, hx', rwI, tbS, c, ci, wk]) | (refine Also.intro ?_ fun _ => ?_) | (refine Hold.intro fun _ => ?_) | (refine And.intro ?_ ?_))
      refine ⟨k + 1, tle_chain rfl ?_, ?_, ⟨by omega, ?_⟩, by omega⟩
      · simp [okAll, okv]
      · exact (by (try simp -dsimp only [hpush_noH, hpush_hps, hps_over]); refine hle_hps ?_; simp -dsimp [allK, tbS]; repeat' (first | (refine And.intro ?_ ?_) | (refine sLe.same ?_ ?_ <;> (simp; done)) | (refine sLe.clear ?_ ?_ <;> (first | (simp; done) | (simp; omega))) | (refine sLe.drop 1 ?_ ?_ ?_ <;> (simp; done))))
      · have hj' : (t.vs.take (k + 1)).any rowN = false := by rw [List.take_add_one, List.any_append, hall, hx]; simp [rowN, c]
        simpa using hj'
  · have hkn : ¬ (k : Int) < t.vs.length := by omega
    have hk2 : k = t.vs.length := by omega
    have hz : farT t = false := by rw [hE, ← hall, hk2, List.take_length]
    simp -dsimp [hkn]
    repeat' (first | omega | (simp -dsimp [E30, ri, cellp, ints, hkn, tbS, hz]) | (refine Also.intro ?_ fun _ => ?_) | (refine Hold.intro fun _ => ?_) | (refine And.intro ?_ ?_))
theorem ok30 : FnOK Tryz.prog 30 (.pure farS) := pure_fn (E := E30) rfl LOK.nil (ok := []) (fn := Tryz.f30) (by kernel_rfl) (by kernel_rfl) (by kernel_rfl) (by kernel_rfl) rfl (fun _ _ => by simp) b30
def farR (r : Ro) : Bool := farT r.h || (farT r.g || (farT r.l || (farT r.p || (farT r.n || (farT r.rl || (farT r.rh || farT r.gl))))))
noncomputable abbrev farrS : PSpec := mkP roE (fun _ => True) fun r => .bool (farR r)
theorem far_dec (t : Tb) : decC tbE [.agg [.sl 1 (t.xs.map ri), .sl 1 (t.ys.map ri), .sl 1 (t.vs.map rwI)]] = t := decC_eq tbE_inj t
noncomputable abbrev E14 : Env := { P := Tryz.prog, fn := tbl [(30, .pure farS)], own := [], key := 1400, nt := 41 }
theorem b14 : PureBody E14 [] Tryz.f14 farrS := by
  refine pb ?_
  rintro r _
  have d0 := far_dec r.h
  have d1 := far_dec r.g
  have d2 := far_dec r.l
  have d3 := far_dec r.p
  have d4 := far_dec r.n
  have d5 := far_dec r.rl
  have d6 := far_dec r.rh
  have d7 := far_dec r.gl
  cases h0 : farT r.h
  case true =>
    have hz : farR r = true := by simp [farR, h0]
    simp -dsimp [Tryz.f14, E14]
    repeat' (first | omega | (simp -dsimp [E14, ri, cellp, ints, d0, h0, hz]) | (refine Also.intro ?_ fun _ => ?_) | (refine Hold.intro fun _ => ?_) | (refine And.intro ?_ ?_))
  cases h1 : farT r.g
  case true =>
    have hz : farR r = true := by simp [farR, h1]
    simp -dsimp [Tryz.f14, E14]
    repeat' (first | omega | (simp -dsimp [E14, ri, cellp, ints, d0, h0, d1, h1, hz]) | (refine Also.intro ?_ fun _ => ?_) | (refine Hold.intro fun _ => ?_) | (refine And.intro ?_ ?_))
  cases h2 : farT r.l
  case true =>
    have hz : farR r = true := by simp [farR, h2]
    simp -dsimp [Tryz.f14, E14]
    repeat' (first | omega | (simp -dsimp [E14, ri, cellp, ints, d0, h0, d1, h1, d2, h2, hz]) | (refine Also.intro ?_ fun _ => ?_) | (refine Hold.intro fun _ => ?_) | (refine And.intro ?_ ?_))
  cases h3 : farT r.p
  case true =>
    have hz : farR r = true := by simp [farR, h3]
    simp -dsimp [Tryz.f14, E14]
    repeat' (first | omega | (simp -dsimp [E14, ri, cellp, ints, d0, h0, d1, h1, d2, h2, d3, h3, hz]) | (refine Also.intro ?_ fun _ => ?_) | (refine Hold.intro fun _ => ?_) | (refine And.intro ?_ ?_))
  cases h4 : farT r.n
  case true =>
    have hz : farR r = true := by simp [farR, h4]
    simp -dsimp [Tryz.f14, E14]
    repeat' (first | omega | (simp -dsimp [E14, ri, cellp, ints, d0, h0, d1, h1, d2, h2, d3, h3, d4, h4, hz]) | (refine Also.intro ?_ fun _ => ?_) | (refine Hold.intro fun _ => ?_) | (refine And.intro ?_ ?_))
  cases h5 : farT r.rl
  case true =>
    have hz : farR r = true := by simp [farR, h5]
    simp -dsimp [Tryz.f14, E14]
    repeat' (first | omega | (simp -dsimp [E14, ri, cellp, ints, d0, h0, d1, h1, d2, h2, d3, h3, d4, h4, d5, h5, hz]) | (refine Also.intro ?_ fun _ => ?_) | (refine Hold.intro fun _ => ?_) | (refine And.intro ?_ ?_))
  cases h6 : farT r.rh
  case true =>
    have hz : farR r = true := by simp [farR, h6]
    simp -dsimp [Tryz.f14, E14]
    repeat' (first | omega | (simp -dsimp [E14, ri, cellp, ints, d0, h0, d1, h1, d2, h2, d3, h3, d4, h4, d5, h5, d6, h6, hz]) | (refine Also.intro ?_ fun _ => ?_) | (refine Hold.intro fun _ => ?_) | (refine And.intro ?_ ?_))
  have hz : farR r = farT r.gl := by simp [farR, h0, h1, h2, h3, h4, h5, h6]
  simp -dsimp [Tryz.f14, E14]
  repeat' (first | omega | (simp -dsimp [E14, ri, cellp, ints, d0, h0, d1, h1, d2, h2, d3, h3, d4, h4, d5, h5, d6, h6, d7, hz]) | (refine Also.intro ?_ fun _ => ?_) | (refine Hold.intro fun _ => ?_) | (refine And.intro ?_ ?_))
theorem ok14 : FnOK Tryz.prog 14 (.pure farrS) := pure_fn (E := E14) rfl (.cons ok30 .nil) (ok := []) (fn := Tryz.f14) (by kernel_rfl) (by kernel_rfl) (by kernel_rfl) (by kernel_rfl) rfl (fun _ _ => by simp) b14
end Go.Sx.Rot
end
