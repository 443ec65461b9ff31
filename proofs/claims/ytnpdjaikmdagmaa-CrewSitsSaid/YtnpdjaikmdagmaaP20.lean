/- A part of a proof; no conditions. -/
import Derived.Test.YtnpdjaikmdagmaaP19
set_option linter.unusedSimpArgs false
set_option linter.unusedVariables false
set_option linter.unusedSectionVars false
section
/- Crew: what is loaded; the reference's moments and centers. No conditions. -/
set_option linter.unusedSimpArgs false
set_option linter.unusedSectionVars false
set_option maxRecDepth 100000
set_option maxHeartbeats 2000000
namespace Go.Sx
open Go.Proofs
attribute [local irreducible] HLe

/-! the moment -/
@[simp] def mtE (d : Ca × List Gu × List Int × Int) : List V := [.agg d.1.row, .sl 4 (d.2.1.map Gu.row), .sl 1 (d.2.2.1.map ri), .int .i64 d.2.2.2]
theorem mtE_inj (a b : Ca × List Gu × List Int × Int) (h : mtE a = mtE b) : a = b := by
  obtain ⟨a1, a2, a3, a4⟩ := a; obtain ⟨b1, b2, b3, b4⟩ := b
  simp only [mtE, List.cons.injEq, V.sl.injEq, V.agg.injEq, V.int.injEq, true_and, and_true] at h
  rw [Ca.row_inj _ _ h.1, mapRow_inj Gu.row_inj h.2.1, map_ri_inj h.2.2.1, h.2.2.2]
theorem mtE_dec (c : Ca) (l : List Gu) (s : List Int) (x : Int) : decC mtE [.agg [.int .i64 c.emp, .int .i64 c.arm, .sl 2 (c.st.map Se.row), .int .i64 c.farm, .int .i64 c.low, .int .i64 c.high], .sl 4 (l.map Gu.row), .sl 1 (s.map ri), .int .i64 x] = (c, l, s, x) := decC_eq mtE_inj (c, l, s, x)
structure MtP (d : Ca × List Gu × List Int × Int) : Prop where
  c : d.1.Fit
  n : d.2.1.length ≤ 8
  g : ∀ g ∈ d.2.1, 1 ≤ g.w ∧ g.w ≤ 500
  x : 0 ≤ d.2.2.2 ∧ d.2.2.2 ≤ 100000
  s : rightB d.1 d.2.1 d.2.2.1 = true
theorem PFit.mt {c : Ca} {l : List Gu} {s : List Int} {f : Sp} (h : PFit (c, l, s, f)) {x : Int} (hx : f.lo ≤ x ∧ x ≤ f.hi) : MtP (c, l, s, x) :=
  ⟨h.f.cf, by have := h.f.n; have := h.f.cf.n; simp only at *; omega, h.f.gf, by have := h.f.ff; simp only at *; omega, h.s⟩
noncomputable abbrev momS : PSpec := mkP mtE MtP fun d => .tup [.int .i64 (mom d.1 d.2.1 d.2.2.1 d.2.2.2), .int .i64 (wgt d.1 d.2.1 d.2.2.2)]
noncomputable abbrev E29 : Env := { P := Try.prog, fn := tbl [], own := [], key := 2900, nt := 59 }
theorem b29 : PureBody E29 [] Try.f29 momS := by
  refine pb ?_
  rintro ⟨c, l, s, x⟩ ⟨hc, hn, hg, hx, hs⟩
  simp only at hc hn hg hx hs
  obtain ⟨hsl, hsq⟩ := seat_of hs
  have hemp := hc.emp
  have m1 := mul_bd (a := c.emp) (A := 100000) (by omega) hc.arm
  have m2 := mul_bd (a := x) (A := 100000) hx hc.farm
  have w1 : IntKind.wrap .i64 (c.emp * c.arm) = c.emp * c.arm := wrap_id (by omega) (by omega)
  have w2 : IntKind.wrap .i64 (x * c.farm) = x * c.farm := wrap_id (by omega) (by omega)
  have w3 : IntKind.wrap .i64 (c.emp * c.arm + x * c.farm) = c.emp * c.arm + x * c.farm := wrap_id (by omega) (by omega)
  have w4 : IntKind.wrap .i64 (c.emp + x) = c.emp + x := wrap_id (by omega) (by omega)
  simp -dsimp [Try.f29, E29, Ca.row]
  repeat' (first | omega | (simp -dsimp [E29, ri, cellp, ints, Ca.row, w1, w2, w3, w4]) | (refine Also.intro ?_ fun _ => ?_) | (refine Hold.intro fun _ => ?_) | (refine And.intro ?_ ?_))
  refine awp_loop [27, 28, 29, 30, 33, 34, 35, 36, 37, 38, 39, 40, 41, 42, 43, 44, 45, 46, 47, 48, 49, 10, 50, 51, 52, 53, 54, 55, 56, 11, 31, 32, 12] (fun k : { k : Nat // k ≤ l.length } => [(12, (true, .int .i64 k.1)), (10, (true, .int .i64 (c.emp * c.arm + x * c.farm + mTo c l s k.1))), (11, (true, .int .i64 (c.emp + x + wTo l k.1)))]) (fun _ => hps [(2904, { base := 0, blks := [{ z := 6, els := [c.row], ty := 49 }] })] noH) (fun k => l.length - k.1) ⟨0, by omega⟩ ?_ ?_ ?_
  · simp [okAll, okv, mTo, wTo]
  · exact (by (try simp -dsimp only [hpush_noH, hpush_hps, hps_over]); refine hle_hps ?_; simp -dsimp [allK, Ca.row]; repeat' (first | (refine And.intro ?_ ?_) | (refine sLe.same ?_ ?_ <;> (simp; done)) | (refine sLe.clear ?_ ?_ <;> (first | (simp; done) | (simp; omega))) | (refine sLe.drop 1 ?_ ?_ ?_ <;> (simp; done))))
  rintro ⟨k, hk⟩
  dsimp only
  have wb := wTo_bd hg k hk
  have mb := mTo_bd hc hg s k hk
  by_cases hk1 : k < l.length
  · have hki : (k : Int) < l.length := by omega
    have wk : IntKind.wrap .i64 ((k : Int) + 1) = (k + 1 : Nat) := wrap_id (by omega) (by omega)
    obtain ⟨u, hu⟩ : ∃ u, l[k]? = some u := ⟨_, List.getElem?_eq_getElem hk1⟩
    have hu' : l[k] = u := (List.getElem?_eq_some_iff.1 hu).2
    have hug : guAt l k = u := by simp [guAt, List.getD, hu]
    have hub := guAt_bd hg hk1
    rw [hug] at hub
    obtain ⟨q, hq, hqn⟩ := hsq k hk1
    have hks : k < s.length := by omega
    have hksi : (k : Int) < s.length := by omega
    have hq' : s[k] = q := (List.getElem?_eq_some_iff.1 hq).2
    obtain ⟨v, hv0⟩ : ∃ v, c.st[q]? = some v := ⟨_, List.getElem?_eq_getElem hqn⟩
    have hv0' : c.st[q] = v := (List.getElem?_eq_some_iff.1 hv0).2
    have hqi : (q : Int) < c.st.length := by omega
    have harm2 : armAt c s k = v.arm := by simp [armAt, List.getD, hq, hv0]
    have hab := armAt_bd hc s k
    rw [harm2] at hab
    have m4 := mul_bd (a := u.w) (A := 500) (by omega) hab
    have hwt : wTo l (k + 1) = wTo l k + u.w := by rw [wTo, hug]
    have hmt : mTo c l s (k + 1) = mTo c l s k + u.w * v.arm := by rw [mTo, hug, harm2]
    have v1 : IntKind.wrap .i64 (u.w * v.arm) = u.w * v.arm := wrap_id (by omega) (by omega)
    have v2 : IntKind.wrap .i64 (c.emp * c.arm + x * c.farm + mTo c l s k + u.w * v.arm) = c.emp * c.arm + x * c.farm + mTo c l s (k + 1) := by rw [wrap_id (by omega) (by omega), hmt]; omega
    have v3 : IntKind.wrap .i64 (c.emp + x + wTo l k + u.w) = c.emp + x + wTo l (k + 1) := by rw [wrap_id (by omega) (by omega), hwt]; omega
    simp -dsimp [hki]
    repeat' (first | omega | (simp -dsimp [E29, ri, cellp, ints, hki, hk1, hks, hksi, hqi, hqn, hu, hu', hq, hq', hv0, hv0', wk, v1, v2, v3, Ca.row, Gu.row, Se.row]) | (refine Also.intro ?_ fun _ => ?_) | (refine Hold.intro fun _ => ?_) | (refine And.intro ?_ ?_))
    refine ⟨k + 1, tle_chain rfl ?_, HLe.refl _, by omega, by omega⟩
    simp [okAll, okv]
  · have hkn : ¬ (k : Int) < l.length := by omega
    have hke : k = l.length := by omega
    subst hke
    have e1 : c.emp * c.arm + x * c.farm + mTo c l s l.length = mom c l s x := by unfold mom; omega
    have e2 : c.emp + x + wTo l l.length = wgt c l x := by unfold wgt; omega
    simp -dsimp [hkn]
    repeat' (first | omega | (simp -dsimp [E29, ri, cellp, ints, hkn, e1, e2]) | (refine Also.intro ?_ fun _ => ?_) | (refine Hold.intro fun _ => ?_) | (refine And.intro ?_ ?_))
theorem ok29 : FnOK Try.prog 29 (.pure momS) := pure_fn (E := E29) rfl LOK.nil (ok := []) (fn := Try.f29) (by kernel_rfl) (by kernel_rfl) (by kernel_rfl) (by kernel_rfl) rfl (fun _ _ => by simp) b29
noncomputable abbrev E65 : Env := { P := Try.prog, fn := tbl [], own := [], key := 6500, nt := 18 }
theorem b65 : PureBody E65 [] Try.f65 floS := by
  refine pb ?_
  rintro ⟨m, w⟩ ⟨hm, hw⟩
  simp only at hm hw
  have hw0 : (w = 0) = False := eq_false (by omega)
  have hb := ediv_bd hw.1 hm
  unfold Far0 at hm hb
  by_cases h0 : 0 ≤ m
  · have hf : m.tdiv w = m / w := Int.tdiv_eq_ediv_of_nonneg h0
    have w1 : IntKind.wrap .i64 (m / w) = m / w := wrap_id (by omega) (by omega)
    simp -dsimp [Try.f65, E65]
    repeat' (first | omega | (simp -dsimp [E65, ri, cellp, ints, hw0, hf, h0, w1]) | (refine Also.intro ?_ fun _ => ?_) | (refine Hold.intro fun _ => ?_) | (refine And.intro ?_ ?_))
  · have h0' : (0 ≤ m) = False := eq_false h0
    have hf := floor_ref m w hw.1 (by omega)
    have w1 : IntKind.wrap .i64 (-m) = -m := wrap_id (by omega) (by omega)
    have w2 : IntKind.wrap .i64 (-m + w) = -m + w := wrap_id (by omega) (by omega)
    have w3 : IntKind.wrap .i64 (-m + w - 1) = -m + w - 1 := wrap_id (by omega) (by omega)
    generalize ht : (-m + w - 1).tdiv w = t at *
    have w4 : IntKind.wrap .i64 t = t := wrap_id (by omega) (by omega)
    have w5 : IntKind.wrap .i64 (-t) = m / w := by rw [wrap_id (by omega) (by omega)]; exact hf
    simp -dsimp [Try.f65, E65]
    repeat' (first | omega | (simp -dsimp [E65, ri, cellp, ints, hw0, h0', w1, w2, w3, ht, w4, w5]) | (refine Also.intro ?_ fun _ => ?_) | (refine Hold.intro fun _ => ?_) | (refine And.intro ?_ ?_))
theorem ok65 : FnOK Try.prog 65 (.pure floS) := pure_fn (E := E65) rfl LOK.nil (ok := []) (fn := Try.f65) (by kernel_rfl) (by kernel_rfl) (by kernel_rfl) (by kernel_rfl) rfl (fun _ _ => by simp) b65
noncomputable abbrev E66 : Env := { P := Try.prog, fn := tbl [(29, .pure momS), (40, .pure withinS)], own := [], key := 6600, nt := 53 }
theorem b66 : PureBody E66 [] Try.f66 balS := by
  refine pb ?_
  rintro ⟨c, l, s, f⟩ hP
  have hP : PFit (c, l, s, f) := hP
  have hff := hP.f.ff
  simp only at hff
  have p1 := hP.mt (x := f.lo) (by omega)
  have p2 := hP.mt (x := f.hi) (by omega)
  have g1 := wgt_bd hP.f (x := f.lo) (by omega)
  have g2 := wgt_bd hP.f (x := f.hi) (by omega)
  have hlow := hP.f.cf.low
  have hhigh := hP.f.cf.high
  simp only at g1 g2 hlow hhigh
  have hB : balB c l f s = (withinB (mom c l s f.lo) (c.low * wgt c l f.lo) (c.high * wgt c l f.lo) && withinB (mom c l s f.hi) (c.low * wgt c l f.hi) (c.high * wgt c l f.hi)) := rfl
  have q1 := mul_bd (a := wgt c l f.lo) (A := 300000) (by omega) hlow
  have q2 := mul_bd (a := wgt c l f.lo) (A := 300000) (by omega) hhigh
  have q3 := mul_bd (a := wgt c l f.hi) (A := 300000) (by omega) hlow
  have q4 := mul_bd (a := wgt c l f.hi) (A := 300000) (by omega) hhigh
  rw [Int.mul_comm _ c.low] at q1 q3
  rw [Int.mul_comm _ c.high] at q2 q4
  have w1 : IntKind.wrap .i64 (c.low * wgt c l f.lo) = c.low * wgt c l f.lo := wrap_id (by omega) (by omega)
  have w2 : IntKind.wrap .i64 (c.high * wgt c l f.lo) = c.high * wgt c l f.lo := wrap_id (by omega) (by omega)
  have w3 : IntKind.wrap .i64 (c.low * wgt c l f.hi) = c.low * wgt c l f.hi := wrap_id (by omega) (by omega)
  have w4 : IntKind.wrap .i64 (c.high * wgt c l f.hi) = c.high * wgt c l f.hi := wrap_id (by omega) (by omega)
  cases h1 : withinB (mom c l s f.lo) (c.low * wgt c l f.lo) (c.high * wgt c l f.lo) <;> rw [h1] at hB
  · simp -dsimp [Try.f66, E66, Ca.row, Sp.row]
    repeat' (first | omega | (simp -dsimp [E66, ri, cellp, ints, Ca.row, Sp.row, mtE_dec, p1, p2, w1, w2, w3, w4, h1, hB]) | (refine Also.intro ?_ fun _ => ?_) | (refine Hold.intro fun _ => ?_) | (refine And.intro ?_ ?_))
  · cases h2 : withinB (mom c l s f.hi) (c.low * wgt c l f.hi) (c.high * wgt c l f.hi) <;> rw [h2] at hB
    all_goals
      simp -dsimp [Try.f66, E66, Ca.row, Sp.row]
      repeat' (first | omega | (simp -dsimp [E66, ri, cellp, ints, Ca.row, Sp.row, mtE_dec, p1, p2, w1, w2, w3, w4, h1, h2, hB]) | (refine Also.intro ?_ fun _ => ?_) | (refine Hold.intro fun _ => ?_) | (refine And.intro ?_ ?_))
theorem ok66 : FnOK Try.prog 66 (.pure balS) := pure_fn (E := E66) rfl (.cons ok29 (.cons ok40 .nil)) (ok := []) (fn := Try.f66) (by kernel_rfl) (by kernel_rfl) (by kernel_rfl) (by kernel_rfl) rfl (fun _ _ => by simp) b66
noncomputable abbrev E33 : Env := { P := Try.prog, fn := tbl [(27, .pure lodS), (64, .pure rightS), (66, .pure balS)], own := [], key := 3300, nt := 28 }
theorem b33 : PureBody E33 [] Try.f33 BalS := by
  refine pb ?_
  rintro ⟨c, l, s, f⟩ hP
  have hP : PcP (c, l, s, f) := hP
  have hL : LoP (c, l, f) := ⟨hP.c, hP.l⟩
  have hR : RtP (c, l, s) := ⟨by have := hP.c; simp only at *; omega, hP.l, hP.s⟩
  have hK : blV c l s f = .tup [.bool (decide (seaE c l s f = 0) && balB c l f s), .int .i64 (seaE c l s f)] := rfl
  have hS : seaE c l s f = if lodE c l f = 0 then (if rightB c l s = true then 0 else 1) else lodE c l f := rfl
  by_cases he : lodE c l f = 0
  · rw [if_pos he] at hS
    cases hr : rightB c l s <;> rw [hr] at hS
    · rw [hS] at hK
      simp -dsimp [Try.f33, E33, Ca.row, Sp.row]
      repeat' (first | omega | (simp -dsimp [E33, ri, cellp, ints, Ca.row, Sp.row, lodE3_dec, rtE_dec, hL, hR, he, hr, hK]) | (refine Also.intro ?_ fun _ => ?_) | (refine Hold.intro fun _ => ?_) | (refine And.intro ?_ ?_))
    · have hS : seaE c l s f = 0 := hS
      have hF := pfit_of hS
      rw [hS] at hK
      simp -dsimp [Try.f33, E33, Ca.row, Sp.row]
      repeat' (first | omega | (simp -dsimp [E33, ri, cellp, ints, Ca.row, Sp.row, lodE3_dec, rtE_dec, pcE_dec, nf2_sl, hL, hR, hF, he, hr, hK]) | (refine Also.intro ?_ fun _ => ?_) | (refine Hold.intro fun _ => ?_) | (refine And.intro ?_ ?_))
  · rw [if_neg he] at hS
    have he' : (lodE c l f = 0) = False := eq_false he
    rw [hS, decide_eq_false he] at hK
    simp -dsimp [Try.f33, E33, Ca.row, Sp.row]
    repeat' (first | omega | (simp -dsimp [E33, ri, cellp, ints, Ca.row, Sp.row, lodE3_dec, hL, he', hK]) | (refine Also.intro ?_ fun _ => ?_) | (refine Hold.intro fun _ => ?_) | (refine And.intro ?_ ?_))
theorem ok33 : FnOK Try.prog 33 (.pure BalS) := pure_fn (E := E33) rfl (.cons ok27 (.cons ok64 (.cons ok66 .nil))) (ok := []) (fn := Try.f33) (by kernel_rfl) (by kernel_rfl) (by kernel_rfl) (by kernel_rfl) rfl (fun _ _ => by simp) b33
noncomputable abbrev E32 : Env := { P := Try.prog, fn := tbl [(27, .pure lodS), (64, .pure rightS), (29, .pure momS), (65, .pure floS)], own := [], key := 3200, nt := 66 }
theorem b32 : PureBody E32 [] Try.f32 CenS := by
  refine pb ?_
  rintro ⟨c, l, s, f⟩ hP
  have hP : PcP (c, l, s, f) := hP
  have hL : LoP (c, l, f) := ⟨hP.c, hP.l⟩
  have hR : RtP (c, l, s) := ⟨by have := hP.c; simp only at *; omega, hP.l, hP.s⟩
  have hS : seaE c l s f = if lodE c l f = 0 then (if rightB c l s = true then 0 else 1) else lodE c l f := rfl
  have hK : cenO c l s f = if seaE c l s f = 0 then cenL c l f s else ⟨0, 0⟩ := rfl
  by_cases he : lodE c l f = 0
  case neg =>
    rw [if_neg he] at hS
    have he' : (lodE c l f = 0) = False := eq_false he
    rw [hS, if_neg he] at hK
    simp -dsimp [Try.f32, E32, Ca.row, Sp.row]
    repeat' (first | omega | (simp -dsimp [E32, ri, cellp, ints, Ca.row, Sp.row, lodE3_dec, hL, he', hS, hK]) | (refine Also.intro ?_ fun _ => ?_) | (refine Hold.intro fun _ => ?_) | (refine And.intro ?_ ?_))
  rw [if_pos he] at hS
  cases hr : rightB c l s <;> rw [hr] at hS
  · have hS : seaE c l s f = 1 := hS
    rw [hS, if_neg (by decide)] at hK
    simp -dsimp [Try.f32, E32, Ca.row, Sp.row]
    repeat' (first | omega | (simp -dsimp [E32, ri, cellp, ints, Ca.row, Sp.row, lodE3_dec, rtE_dec, hL, hR, he, hr, hS, hK]) | (refine Also.intro ?_ fun _ => ?_) | (refine Hold.intro fun _ => ?_) | (refine And.intro ?_ ?_))
  have hS : seaE c l s f = 0 := hS
  have hF := pfit_of hS
  rw [if_pos hS] at hK
  have hff := hF.f.ff
  simp only at hff
  have p1 := hF.mt (x := f.lo) (by omega)
  have p2 := hF.mt (x := f.hi) (by omega)
  have g1 := wgt_bd hF.f (x := f.lo) (by omega)
  have g2 := wgt_bd hF.f (x := f.hi) (by omega)
  have m1 := mom_bd hF.f s (x := f.lo) (by omega)
  have m2 := mom_bd hF.f s (x := f.hi) (by omega)
  simp only at g1 g2 m1 m2
  have hC : cenL c l f s = ⟨min (mom c l s f.lo / wgt c l f.lo) (mom c l s f.hi / wgt c l f.hi), max (-(-mom c l s f.lo / wgt c l f.lo)) (-(-mom c l s f.hi / wgt c l f.hi))⟩ := rfl
  rw [hC] at hK
  have F1 : FlP (mom c l s f.lo, wgt c l f.lo) := ⟨⟨by simp only; omega, by simp only; omega⟩, g1.1, by simp only; omega⟩
  have F2 : FlP (mom c l s f.hi, wgt c l f.hi) := ⟨⟨by simp only; omega, by simp only; omega⟩, g2.1, by simp only; omega⟩
  have F3 : FlP (-mom c l s f.lo, wgt c l f.lo) := ⟨⟨by simp only; omega, by simp only; omega⟩, g1.1, by simp only; omega⟩
  have F4 : FlP (-mom c l s f.hi, wgt c l f.hi) := ⟨⟨by simp only; omega, by simp only; omega⟩, g2.1, by simp only; omega⟩
  have b3 := ediv_bd g1.1 F3.n
  have b4 := ediv_bd g2.1 F4.n
  simp only [Far0] at b3 b4
  have n1 : IntKind.wrap .i64 (-mom c l s f.lo) = -mom c l s f.lo := wrap_id (by omega) (by omega)
  have n2 : IntKind.wrap .i64 (-mom c l s f.hi) = -mom c l s f.hi := wrap_id (by omega) (by omega)
  generalize hq1 : mom c l s f.lo / wgt c l f.lo = q1 at *
  generalize hq2 : mom c l s f.hi / wgt c l f.hi = q2 at *
  generalize hq3 : -mom c l s f.lo / wgt c l f.lo = q3 at *
  generalize hq4 : -mom c l s f.hi / wgt c l f.hi = q4 at *
  have n3 : IntKind.wrap .i64 (-q3) = -q3 := wrap_id (by omega) (by omega)
  have n4 : IntKind.wrap .i64 (-q4) = -q4 := wrap_id (by omega) (by omega)
  have e1 : (if q2 < q1 then q2 else q1) = min q1 q2 := by split <;> omega
  have e2 : (if -q3 < -q4 then -q4 else -q3) = max (-q3) (-q4) := by split <;> omega
  have e2' : (if q4 < q3 then -q4 else -q3) = max (-q3) (-q4) := by split <;> omega
  simp -dsimp [Try.f32, E32, Ca.row, Sp.row]
  repeat' (first | omega | (simp -dsimp [E32, ri, cellp, ints, Ca.row, Sp.row, lodE3_dec, rtE_dec, mtE_dec, flE_dec, hL, hR, he, hr, p1, p2, F1, F2, F3, F4, n1, n2, hq1, hq2, hq3, hq4, n3, n4, e1, e2, e2', hS, hK]) | (refine Also.intro ?_ fun _ => ?_) | (refine Hold.intro fun _ => ?_) | (refine And.intro ?_ ?_))
theorem ok32 : FnOK Try.prog 32 (.pure CenS) := pure_fn (E := E32) rfl (.cons ok27 (.cons ok64 (.cons ok29 (.cons ok65 .nil)))) (ok := []) (fn := Try.f32) (by kernel_rfl) (by kernel_rfl) (by kernel_rfl) (by kernel_rfl) rfl (fun _ _ => by simp) b32

/-! what is loaded -/
def lddO (c : Ca) (l : List Gu) (f : Sp) : Sp := if lodE c l f = 0 then ⟨c.emp + wTo l l.length + f.lo, c.emp + wTo l l.length + f.hi⟩ else ⟨0, 0⟩
noncomputable abbrev lddS : PSpec := mkP lodE3 LoP fun d => .tup [.agg (lddO d.1 d.2.1 d.2.2).row, .int .i64 (lodE d.1 d.2.1 d.2.2)]
noncomputable abbrev E30 : Env := { P := Try.prog, fn := tbl [(45, .pure lodS)], own := [], key := 3000, nt := 42 }
theorem b30 : PureBody E30 [] Try.f30 lddS := by
  refine pb ?_
  rintro ⟨c, l, f⟩ hP
  have hP : LoP (c, l, f) := hP
  have hK : lddO c l f = if lodE c l f = 0 then ⟨c.emp + wTo l l.length + f.lo, c.emp + wTo l l.length + f.hi⟩ else ⟨0, 0⟩ := rfl
  by_cases he : lodE c l f = 0
  case neg =>
    have he' : (lodE c l f = 0) = False := eq_false he
    rw [if_neg he] at hK
    simp -dsimp [Try.f30, E30, Ca.row, Sp.row]
    repeat' (first | omega | (simp -dsimp [E30, ri, cellp, ints, Ca.row, Sp.row, lodE3_dec, hP, he', hK]) | (refine Also.intro ?_ fun _ => ?_) | (refine Hold.intro fun _ => ?_) | (refine And.intro ?_ ?_))
  rw [if_pos he] at hK
  have hL := lodE_zero he
  have hemp := hL.cf.emp
  have hff := hL.ff
  have hn8 : l.length ≤ 8 := by have := hL.n; have := hL.cf.n; omega
  simp -dsimp [Try.f30, E30, Ca.row, Sp.row]
  repeat' (first | omega | (simp -dsimp [E30, ri, cellp, ints, Ca.row, Sp.row, lodE3_dec, hP, he]) | (refine Also.intro ?_ fun _ => ?_) | (refine Hold.intro fun _ => ?_) | (refine And.intro ?_ ?_))
  refine awp_loop [25, 26, 27, 11, 28, 29, 30, 31, 9, 32, 24] (fun k : { k : Nat // k ≤ l.length } => [(24, (true, .int .i64 k.1)), (9, (true, .int .i64 (c.emp + wTo l k.1)))]) (fun k => hps [(3011, { base := k.1, blks := [] }), (3003, { base := 0, blks := [{ z := 6, els := [c.row], ty := 49 }] }), (3005, { base := 0, blks := [{ z := 2, els := [f.row], ty := 51 }] }), (3006, { base := 0, blks := [{ z := 2, els := [[.int .i64 0, .int .i64 0]], ty := 51 }] })] noH) (fun k => l.length - k.1) ⟨0, by omega⟩ ?_ ?_ ?_
  · simp [okAll, okv, wTo]
  · exact (by (try simp -dsimp only [hpush_noH, hpush_hps, hps_over]); refine hle_hps ?_; simp -dsimp [allK, Ca.row, Sp.row]; repeat' (first | (refine And.intro ?_ ?_) | (refine sLe.same ?_ ?_ <;> (simp; done)) | (refine sLe.clear ?_ ?_ <;> (first | (simp; done) | (simp; omega))) | (refine sLe.drop 1 ?_ ?_ ?_ <;> (simp; done))))
  rintro ⟨k, hk⟩
  dsimp only
  have wb := wTo_bd hL.gf k hk
  by_cases hk1 : k < l.length
  · have hki : (k : Int) < l.length := by omega
    have wk : IntKind.wrap .i64 ((k : Int) + 1) = (k + 1 : Nat) := wrap_id (by omega) (by omega)
    obtain ⟨u, hu⟩ : ∃ u, l[k]? = some u := ⟨_, List.getElem?_eq_getElem hk1⟩
    have hu' : l[k] = u := (List.getElem?_eq_some_iff.1 hu).2
    have hug : guAt l k = u := by simp [guAt, List.getD, hu]
    have hub := guAt_bd hL.gf hk1
    rw [hug] at hub
    have hwt : wTo l (k + 1) = wTo l k + u.w := by rw [wTo, hug]
    have v3 : IntKind.wrap .i64 (c.emp + wTo l k + u.w) = c.emp + wTo l (k + 1) := by rw [wrap_id (by omega) (by omega), hwt]; omega
    simp -dsimp [hki]
    repeat' (first | omega | (simp -dsimp [E30, ri, cellp, ints, hki, hk1, hu, hu', wk, v3, Ca.row, Gu.row, Sp.row]) | (refine Also.intro ?_ fun _ => ?_) | (refine Hold.intro fun _ => ?_) | (refine And.intro ?_ ?_))
    refine ⟨k + 1, tle_chain rfl ?_, ?_, by omega, by omega⟩
    · simp [okAll, okv]
    · exact (by (try simp -dsimp only [hpush_noH, hpush_hps, hps_over]); refine hle_hps ?_; simp -dsimp [allK, Ca.row, Sp.row]; repeat' (first | (refine And.intro ?_ ?_) | (refine sLe.same ?_ ?_ <;> (simp; done)) | (refine sLe.clear ?_ ?_ <;> (first | (simp; done) | (simp; omega))) | (refine sLe.drop 1 ?_ ?_ ?_ <;> (simp; done))))
  · have hkn : ¬ (k : Int) < l.length := by omega
    have hke : k = l.length := by omega
    subst hke
    have e1 : IntKind.wrap .i64 (c.emp + wTo l l.length + f.lo) = c.emp + wTo l l.length + f.lo := wrap_id (by omega) (by omega)
    have e2 : IntKind.wrap .i64 (c.emp + wTo l l.length + f.hi) = c.emp + wTo l l.length + f.hi := wrap_id (by omega) (by omega)
    simp -dsimp [hkn]
    repeat' (first | omega | (simp -dsimp [E30, ri, cellp, ints, hkn, e1, e2, Ca.row, Sp.row, he, hK]) | (refine Also.intro ?_ fun _ => ?_) | (refine Hold.intro fun _ => ?_) | (refine And.intro ?_ ?_))
theorem ok30 : FnOK Try.prog 30 (.pure lddS) := pure_fn (E := E30) rfl (.cons ok45 .nil) (ok := []) (fn := Try.f30) (by kernel_rfl) (by kernel_rfl) (by kernel_rfl) (by kernel_rfl) rfl (fun _ _ => by simp) b30
noncomputable abbrev E31 : Env := { P := Try.prog, fn := tbl [(27, .pure lodS)], own := [], key := 3100, nt := 43 }
theorem b31 : PureBody E31 [] Try.f31 lddS := by
  refine pb ?_
  rintro ⟨c, l, f⟩ hP
  have hP : LoP (c, l, f) := hP
  have hK : lddO c l f = if lodE c l f = 0 then ⟨c.emp + wTo l l.length + f.lo, c.emp + wTo l l.length + f.hi⟩ else ⟨0, 0⟩ := rfl
  by_cases he : lodE c l f = 0
  case neg =>
    have he' : (lodE c l f = 0) = False := eq_false he
    rw [if_neg he] at hK
    simp -dsimp [Try.f31, E31, Ca.row, Sp.row]
    repeat' (first | omega | (simp -dsimp [E31, ri, cellp, ints, Ca.row, Sp.row, lodE3_dec, hP, he', hK]) | (refine Also.intro ?_ fun _ => ?_) | (refine Hold.intro fun _ => ?_) | (refine And.intro ?_ ?_))
  rw [if_pos he] at hK
  have hL := lodE_zero he
  have hemp := hL.cf.emp
  have hff := hL.ff
  have hn8 : l.length ≤ 8 := by have := hL.n; have := hL.cf.n; omega
  simp -dsimp [Try.f31, E31, Ca.row, Sp.row]
  repeat' (first | omega | (simp -dsimp [E31, ri, cellp, ints, Ca.row, Sp.row, lodE3_dec, hP, he]) | (refine Also.intro ?_ fun _ => ?_) | (refine Hold.intro fun _ => ?_) | (refine And.intro ?_ ?_))
  refine awp_loop [21, 22, 23, 24, 27, 28, 29, 30, 31, 32, 33, 9, 25, 26, 10] (fun k : { k : Nat // k ≤ l.length } => [(10, (true, .int .i64 k.1)), (9, (true, .int .i64 (c.emp + wTo l k.1)))]) (fun k => hps [(3103, { base := 0, blks := [{ z := 6, els := [c.row], ty := 49 }] }), (3105, { base := 0, blks := [{ z := 2, els := [f.row], ty := 51 }] }), (3106, { base := 0, blks := [{ z := 2, els := [[.int .i64 0, .int .i64 0]], ty := 51 }] })] noH) (fun k => l.length - k.1) ⟨0, by omega⟩ ?_ ?_ ?_
  · simp [okAll, okv, wTo]
  · exact (by (try simp -dsimp only [hpush_noH, hpush_hps, hps_over]); refine hle_hps ?_; simp -dsimp [allK, Ca.row, Sp.row]; repeat' (first | (refine And.intro ?_ ?_) | (refine sLe.same ?_ ?_ <;> (simp; done)) | (refine sLe.clear ?_ ?_ <;> (first | (simp; done) | (simp; omega))) | (refine sLe.drop 1 ?_ ?_ ?_ <;> (simp; done))))
  rintro ⟨k, hk⟩
  dsimp only
  have wb := wTo_bd hL.gf k hk
  by_cases hk1 : k < l.length
  · have hki : (k : Int) < l.length := by omega
    have wk : IntKind.wrap .i64 ((k : Int) + 1) = (k + 1 : Nat) := wrap_id (by omega) (by omega)
    obtain ⟨u, hu⟩ : ∃ u, l[k]? = some u := ⟨_, List.getElem?_eq_getElem hk1⟩
    have hu' : l[k] = u := (List.getElem?_eq_some_iff.1 hu).2
    have hug : guAt l k = u := by simp [guAt, List.getD, hu]
    have hub := guAt_bd hL.gf hk1
    rw [hug] at hub
    have hwt : wTo l (k + 1) = wTo l k + u.w := by rw [wTo, hug]
    have v3 : IntKind.wrap .i64 (c.emp + wTo l k + u.w) = c.emp + wTo l (k + 1) := by rw [wrap_id (by omega) (by omega), hwt]; omega
    simp -dsimp [hki]
    repeat' (first | omega | (simp -dsimp [E31, ri, cellp, ints, hki, hk1, hu, hu', wk, v3, Ca.row, Gu.row, Sp.row]) | (refine Also.intro ?_ fun _ => ?_) | (refine Hold.intro fun _ => ?_) | (refine And.intro ?_ ?_))
    refine ⟨k + 1, tle_chain rfl ?_, ?_, by omega, by omega⟩
    · simp [okAll, okv]
    · exact (by (try simp -dsimp only [hpush_noH, hpush_hps, hps_over]); refine hle_hps ?_; simp -dsimp [allK, Ca.row, Sp.row]; repeat' (first | (refine And.intro ?_ ?_) | (refine sLe.same ?_ ?_ <;> (simp; done)) | (refine sLe.clear ?_ ?_ <;> (first | (simp; done) | (simp; omega))) | (refine sLe.drop 1 ?_ ?_ ?_ <;> (simp; done))))
  · have hkn : ¬ (k : Int) < l.length := by omega
    have hke : k = l.length := by omega
    subst hke
    have e1 : IntKind.wrap .i64 (c.emp + wTo l l.length + f.lo) = c.emp + wTo l l.length + f.lo := wrap_id (by omega) (by omega)
    have e2 : IntKind.wrap .i64 (c.emp + wTo l l.length + f.hi) = c.emp + wTo l l.length + f.hi := wrap_id (by omega) (by omega)
    simp -dsimp [hkn]
    repeat' (first | omega | (simp -dsimp [E31, ri, cellp, ints, hkn, e1, e2, Ca.row, Sp.row, he, hK]) | (refine Also.intro ?_ fun _ => ?_) | (refine Hold.intro fun _ => ?_) | (refine And.intro ?_ ?_))
theorem ok31 : FnOK Try.prog 31 (.pure lddS) := pure_fn (E := E31) rfl (.cons ok27 .nil) (ok := []) (fn := Try.f31) (by kernel_rfl) (by kernel_rfl) (by kernel_rfl) (by kernel_rfl) rfl (fun _ _ => by simp) b31
end Go.Sx
end
section
/- Crew: the reference's first balanced seating. No conditions. -/
set_option linter.unusedSimpArgs false
set_option linter.unusedSectionVars false
set_option maxRecDepth 100000
set_option maxHeartbeats 2000000
namespace Go.Sx
open Go.Proofs
attribute [local irreducible] HLe

def sitG (c : Ca) (l : List Gu) (f : Sp) : Nat → List Int → List Int × Bool
  | 0, b => (b, balB c l f b)
  | m + 1, b => match sitF c l f (m + 1) b with
    | some a => (a, true)
    | none => ([], false)
theorem sitG_F (c : Ca) (l : List Gu) (f : Sp) (m : Nat) (b : List Int) : ((sitG c l f m b).2 = true → sitF c l f m b = some (sitG c l f m b).1) ∧ ((sitG c l f m b).2 = false → sitF c l f m b = none) := by
  cases m with
  | zero => simp only [sitG, sitF]; constructor <;> intro h <;> simp [h]
  | succ m =>
    simp only [sitG]
    cases h : sitF c l f (m + 1) b <;> simp
theorem fs_stop {α : Type} {g : Nat → Option α} {k : Nat} {a : α} (h : (List.range (k + 1)).findSome? g = some a) : ∀ q, (List.range (k + 1 + q)).findSome? g = some a
  | 0 => h
  | q + 1 => by
    rw [← Nat.add_assoc, List.range_succ, findSome_snoc, fs_stop h q]; rfl
theorem guAt_take {l : List Gu} {i n : Nat} (h : i < n) : guAt (l.take n) i = guAt l i := by
  simp [guAt, List.getD, List.getElem?_take, h]
theorem right_step {c : Ca} {l : List Gu} {b : List Int} (hb : ∀ i, i < b.length → seatOk c l b i = true) (hn : b.length < l.length) (x : Int) : rightB c (l.take (b.length + 1)) (b ++ [x]) = sitsB c (guAt l b.length) b x := by
  have e1 : ∀ i, i < b.length → seatOk c (l.take (b.length + 1)) (b ++ [x]) i = true := fun i hi => by
    rw [seatOk_snoc hi]
    have := hb i hi
    unfold seatOk at this ⊢
    rw [guAt_take (by omega)]; exact this
  have e2 : seatOk c (l.take (b.length + 1)) (b ++ [x]) b.length = sitsB c (guAt l b.length) b x := by
    unfold seatOk
    rw [guAt_take (by omega), List.take_left' rfl]
    simp [List.getD]
  have hl : (l.take (b.length + 1)).length = b.length + 1 := by rw [List.length_take]; omega
  unfold rightB
  rw [hl, decide_eq_true (by simp), Bool.true_and, List.range_succ, List.all_append]
  rw [show ((List.range b.length).all fun i => seatOk c (l.take (b.length + 1)) (b ++ [x]) i) = true from List.all_eq_true.2 fun i hi => e1 i (by simpa using hi)]
  simp [e2]
@[simp] def sgE (d : Ca × List Gu × Sp × List Int) : List V := [.agg d.1.row, .sl 4 (d.2.1.map Gu.row), .agg d.2.2.1.row, .sl 1 (d.2.2.2.map ri)]
theorem sgE_inj (a b : Ca × List Gu × Sp × List Int) (h : sgE a = sgE b) : a = b := by
  obtain ⟨a1, a2, a3, a4⟩ := a; obtain ⟨b1, b2, b3, b4⟩ := b
  simp only [sgE, List.cons.injEq, V.sl.injEq, V.agg.injEq, true_and, and_true] at h
  rw [Ca.row_inj _ _ h.1, mapRow_inj Gu.row_inj h.2.1, Sp.row_inj _ _ h.2.2.1, map_ri_inj h.2.2.2]
theorem sgE_dec (c : Ca) (l : List Gu) (f : Sp) (b : List Int) : decC sgE [.agg [.int .i64 c.emp, .int .i64 c.arm, .sl 2 (c.st.map Se.row), .int .i64 c.farm, .int .i64 c.low, .int .i64 c.high], .sl 4 (l.map Gu.row), .agg [.int .i64 f.lo, .int .i64 f.hi], .sl 1 (b.map ri)] = (c, l, f, b) := decC_eq sgE_inj (c, l, f, b)
theorem sgE_dec1 (c : Ca) (l : List Gu) (f : Sp) (b : List Int) (x : Int) : decC sgE [.agg [.int .i64 c.emp, .int .i64 c.arm, .sl 2 (c.st.map Se.row), .int .i64 c.farm, .int .i64 c.low, .int .i64 c.high], .sl 4 (l.map Gu.row), .agg [.int .i64 f.lo, .int .i64 f.hi], .sl 1 (b.map ri ++ [[.int .i64 x]])] = (c, l, f, b ++ [x]) := by
  have := sgE_dec c l f (b ++ [x])
  rw [List.map_append] at this
  exact this
def nf3 : List V → List V
  | [a, b, c, .nil] => [a, b, c, .sl 1 []]
  | l => l
theorem nf3_nil (a b c : V) : nf3 [a, b, c, .nil] = [a, b, c, .sl 1 []] := rfl
theorem nf3_sl (a b c : V) (z : Nat) (els : List (List V)) : nf3 [a, b, c, .sl z els] = [a, b, c, .sl z els] := rfl
structure SgP (M : Nat) (d : Ca × List Gu × Sp × List Int) : Prop where
  f : LFit d.1 d.2.1 d.2.2.1
  sk : ∀ i, i < d.2.2.2.length → seatOk d.1 d.2.1 d.2.2.2 i = true
  le : d.2.2.2.length ≤ d.2.1.length
  lt : d.2.1.length - d.2.2.2.length < M
noncomputable abbrev sgS (M : Nat) : PSpec := { dom := Ca × List Gu × Sp × List Int, enc := sgE, dec := fun l => decC sgE (nf3 l), pre := SgP M, res := fun d => .tup [ints (sitG d.1 d.2.1 d.2.2.1 (d.2.1.length - d.2.2.2.length) d.2.2.2).1, .bool (sitG d.1 d.2.1 d.2.2.1 (d.2.1.length - d.2.2.2.length) d.2.2.2).2] }
theorem rtE_dec1 (c : Ca) (l : List Gu) (b : List Int) (x : Int) : decC rtE [.agg [.int .i64 c.emp, .int .i64 c.arm, .sl 2 (c.st.map Se.row), .int .i64 c.farm, .int .i64 c.low, .int .i64 c.high], .sl 4 (l.map Gu.row), .sl 1 (b.map ri ++ [[.int .i64 x]])] = (c, l, b ++ [x]) := by
  have := rtE_dec c l (b ++ [x])
  rw [List.map_append] at this
  exact this
noncomputable abbrev E49 (M : Nat) : Env := { P := Try.prog, fn := tbl [(66, .pure balS), (64, .pure rightS), (49, .pure (sgS M))], own := [32], key := 4900, nt := 56, frz := [(8, [11, 50011])] }
theorem b49 (M : Nat) : PureBody (E49 M) [] Try.f49 (sgS (M + 1)) := by
  refine pb ?_
  rintro ⟨c, l, f, b⟩ ⟨hL, hsk, hle, hlt⟩
  simp only at hL hsk hle hlt
  have hs8 := hL.cf.n
  have hn8 : l.length ≤ 8 := by have := hL.n; omega
  dsimp only
  by_cases hfull : b.length = l.length
  · have hx : sitG c l f (l.length - b.length) b = (b, balB c l f b) := by rw [hfull, Nat.sub_self]; rfl
    rw [hx]
    have hP := pfit_sit hL hsk hfull
    have hfi : ((b.length : Int) = l.length) = True := eq_true (by omega)
    simp -dsimp [Try.f49, E49, Ca.row, Sp.row]
    repeat' (first | omega | (simp -dsimp [E49, ri, cellp, ints, hfi, pcE_dec, nf2_sl, hP, Ca.row, Gu.row, Sp.row]) | (refine Also.intro ?_ fun _ => ?_) | (refine Hold.intro fun _ => ?_) | (refine And.intro ?_ ?_))
  have hlt' : b.length < l.length := by omega
  have hnf : ((b.length : Int) = l.length) = False := eq_false (by omega)
  obtain ⟨m, hm⟩ : ∃ m, l.length - b.length = m + 1 := ⟨l.length - b.length - 1, by omega⟩
  have hF : sitF c l f (m + 1) b = (List.range c.st.length).findSome? (stepF c l f m b) := rfl
  have hG : sitG c l f (l.length - b.length) b = (match sitF c l f (m + 1) b with | some a => (a, true) | none => ([], false)) := by rw [hm]; rfl
  rw [hF] at hG
  simp -dsimp [Try.f49, E49, Ca.row, Sp.row]
  repeat' (first | omega | (simp -dsimp [E49, ri, cellp, ints, hnf, Ca.row, Gu.row, Sp.row]) | (refine Also.intro ?_ fun _ => ?_) | (refine Hold.intro fun _ => ?_) | (refine And.intro ?_ ?_))
  refine awp_loop [25, 26, 27, 28, 29, 32, 33, 34, 35, 36, 37, 11, 38, 39, 40, 41, 42, 43, 44, 45, 47, 48, 49, 50, 51, 46, 52, 53, 12, 13, 54, 55, 8, 9, 30, 31, 10] (fun k : { k : Nat // k ≤ c.st.length ∧ (List.range k).findSome? (stepF c l f m b) = none } => [(10, (true, .int .i64 k.1))]) (fun k => hps [(4932, { base := k.1, blks := [] }), (4906, { base := 0, blks := [{ z := 2, els := [f.row], ty := 51 }] }), (4904, { base := 0, blks := [{ z := 6, els := [c.row], ty := 49 }] })] noH) (fun k => c.st.length - k.1) ⟨0, by omega, rfl⟩ ?_ ?_ ?_
  · simp [okAll, okv]
  · exact (by (try simp -dsimp only [hpush_noH, hpush_hps, hps_over]); refine hle_hps ?_; simp -dsimp [allK, Ca.row, Sp.row]; repeat' (first | (refine And.intro ?_ ?_) | (refine sLe.same ?_ ?_ <;> (simp; done)) | (refine sLe.clear ?_ ?_ <;> (first | (simp; done) | (simp; omega))) | (refine sLe.drop 1 ?_ ?_ ?_ <;> (simp; done))))
  rintro ⟨k, hk, hnone⟩
  dsimp only
  by_cases hk1 : k < c.st.length
  case neg =>
    have hkn : ¬ (k : Int) < c.st.length := by omega
    have hke : k = c.st.length := by omega
    subst hke
    rw [hnone] at hG
    simp only at hG
    simp -dsimp [hkn]
    repeat' (first | omega | (simp -dsimp [E49, ri, cellp, ints, hkn, hG, Ca.row]) | (refine Also.intro ?_ fun _ => ?_) | (refine Hold.intro fun _ => ?_) | (refine And.intro ?_ ?_))
  have hki : (k : Int) < c.st.length := by omega
  have wk : IntKind.wrap .i64 ((k : Int) + 1) = (k + 1 : Nat) := wrap_id (by omega) (by omega)
  have hb8 : b.length ≤ 8 := by omega
  have hmt : List.take (b.length + 1) (l.map Gu.row) = (l.take (b.length + 1)).map Gu.row := by rw [List.map_take]
  have hst := right_step hsk hlt' (k : Int)
  have hll : b.length + 1 ≤ l.length := by omega
  have hlli : (b.length : Int) + 1 ≤ l.length := by omega
  have hRP : RtP (c, l.take (b.length + 1), b ++ [(k : Int)]) := ⟨by simp only; omega, by simp only [List.length_take]; omega, by simp only [List.length_append, List.length_singleton]; omega⟩
  have hstep : stepF c l f m b k = if sitsB c (guAt l b.length) b k = true then sitF c l f m (b ++ [(k : Int)]) else none := rfl
  have hsn : (List.range (k + 1)).findSome? (stepF c l f m b) = stepF c l f m b k := by rw [List.range_succ, findSome_snoc, hnone]; rfl
  generalize l.take (b.length + 1) = l1 at hmt hRP hst
  cases hsb : sitsB c (guAt l b.length) b (k : Int) <;> rw [hsb] at hst hstep
  · have hstep : stepF c l f m b k = none := hstep
    simp -dsimp [hki]
    repeat' (first | omega | (simp -dsimp [E49, ri, cellp, ints, hki, hk1, wk, hb8, hmt, hll, hlli, hRP, hst, rtE_dec1, Ca.row, Sp.row]) | (refine Also.intro ?_ fun _ => ?_) | (refine Hold.intro fun _ => ?_) | (refine And.intro ?_ ?_))
    refine ⟨k + 1, tle_chain rfl ?_, ?_, ⟨by omega, by have hnx := hsn.trans hstep; simpa using hnx⟩, by omega⟩
    · simp [okAll, okv]
    · exact (by (try simp -dsimp only [hpush_noH, hpush_hps, hps_over]); refine hle_hps ?_; simp -dsimp [allK, Ca.row, Sp.row]; repeat' (first | (refine And.intro ?_ ?_) | (refine sLe.same ?_ ?_ <;> (simp; done)) | (refine sLe.clear ?_ ?_ <;> (first | (simp; done) | (simp; omega))) | (refine sLe.drop 1 ?_ ?_ ?_ <;> (simp; done))))
  · have hstep : stepF c l f m b k = sitF c l f m (b ++ [(k : Int)]) := hstep
    have hsub : l.length - (b ++ [(k : Int)]).length = m := by rw [List.length_append, List.length_singleton, ← Nat.sub_sub, hm]; rfl
    have hSg : SgP M (c, l, f, b ++ [(k : Int)]) := ⟨hL, fun i hi => by
      simp only [List.length_append, List.length_singleton] at hi
      by_cases h : i < b.length
      · rw [seatOk_snoc h]; exact hsk i h
      · have : i = b.length := by omega
        subst this
        unfold seatOk
        rw [List.take_left' rfl]
        simpa [List.getD] using hsb, by simp only [List.length_append, List.length_singleton]; omega, by simp only [hsub]; omega⟩
    obtain ⟨gy, gn⟩ := sitG_F c l f m (b ++ [(k : Int)])
    have hsub2 : l.length - (b.length + 1) = m := by rw [← Nat.sub_sub, hm]; rfl
    rcases hR : sitG c l f m (b ++ [(k : Int)]) with ⟨o, t⟩
    rw [hR] at gy gn
    cases t with
    | true =>
      have hy := gy rfl
      obtain ⟨q, hq⟩ : ∃ q, c.st.length = (k + 1) + q := ⟨c.st.length - (k + 1), by omega⟩
      rw [hq, fs_stop (a := o) (by rw [hsn, hstep, hy])] at hG
      simp only at hG
      simp -dsimp [hki]
      repeat' (first | omega | (simp -dsimp [E49, ri, cellp, ints, hki, hk1, wk, hb8, hmt, hll, hlli, hRP, hst, rtE_dec1, sgE_dec1, nf3_sl, hSg, hsub, hsub2, hR, hG, Ca.row, Sp.row]) | (refine Also.intro ?_ fun _ => ?_) | (refine Hold.intro fun _ => ?_) | (refine And.intro ?_ ?_))
    | false =>
      have hno := gn rfl
      simp -dsimp [hki]
      repeat' (first | omega | (simp -dsimp [E49, ri, cellp, ints, hki, hk1, wk, hb8, hmt, hll, hlli, hRP, hst, rtE_dec1, sgE_dec1, nf3_sl, hSg, hsub, hsub2, hR, Ca.row, Sp.row]) | (refine Also.intro ?_ fun _ => ?_) | (refine Hold.intro fun _ => ?_) | (refine And.intro ?_ ?_))
      refine ⟨k + 1, tle_chain rfl ?_, ?_, ⟨by omega, by have hnx := hsn.trans (hstep.trans hno); simpa using hnx⟩, by omega⟩
      · simp [okAll, okv]
      · exact (by (try simp -dsimp only [hpush_noH, hpush_hps, hps_over]); refine hle_hps ?_; simp -dsimp [allK, Ca.row, Sp.row]; repeat' (first | (refine And.intro ?_ ?_) | (refine sLe.same ?_ ?_ <;> (simp; done)) | (refine sLe.clear ?_ ?_ <;> (first | (simp; done) | (simp; omega))) | (refine sLe.drop 1 ?_ ?_ ?_ <;> (simp; done))))
theorem ok49 : ∀ M, FnOK Try.prog 49 (.pure (sgS M))
  | 0 => { call := run_call (fn := Try.f49) (by kernel_rfl) (by kernel_rfl) rfl, iter := fun S' hS => (by cases hS), heap := fun S' hS => (by cases hS), pure := fun S' hS => (by
      cases hS
      intro d hd
      exact absurd hd.lt (by have := hd.le; omega)) }
  | M + 1 => pure_fn (E := E49 M) rfl (.cons ok66 (.cons ok64 (.cons (ok49 M) .nil))) (ok := []) (fn := Try.f49) (by kernel_rfl) (by kernel_rfl) (by kernel_rfl) (by kernel_rfl) rfl (fun _ _ => by simp) (b49 M)
noncomputable abbrev E22 : Env := { P := Try.prog, fn := tbl [(27, .pure lodS), (49, .pure (sgS 9))], own := [], key := 2200, nt := 28 }
theorem b22 : PureBody E22 [] Try.f22 SitS := by
  refine pb ?_
  rintro ⟨c, l, f⟩ hP
  have hP : LoP (c, l, f) := hP
  have hK : sitE c l f = if lodE c l f = 0 then (match sitO c l f with | some s => (s, 0) | none => ([], 3)) else ([], lodE c l f) := rfl
  by_cases he : lodE c l f = 0
  case neg =>
    rw [if_neg he] at hK
    have he' : (lodE c l f = 0) = False := eq_false he
    simp -dsimp [Try.f22, E22, Ca.row, Sp.row]
    repeat' (first | omega | (simp -dsimp [E22, ri, cellp, ints, Ca.row, Sp.row, lodE3_dec, hP, he', hK]) | (refine Also.intro ?_ fun _ => ?_) | (refine Hold.intro fun _ => ?_) | (refine And.intro ?_ ?_))
  rw [if_pos he] at hK
  have hL := lodE_zero he
  have hSg : SgP 9 (c, l, f, []) := ⟨hL, fun i hi => by simp at hi, by simp, by have := hL.n; have := hL.cf.n; simp; omega⟩
  have hd := sgE_dec c l f []
  simp only [List.map_nil] at hd
  obtain ⟨gy, gn⟩ := sitG_F c l f l.length []
  rcases hR : sitG c l f l.length [] with ⟨o, t⟩
  rw [hR] at gy gn
  cases t with
  | true =>
    have hy : sitO c l f = some o := gy rfl
    rw [hy] at hK
    simp only at hK
    simp -dsimp [Try.f22, E22, Ca.row, Sp.row]
    repeat' (first | omega | (simp -dsimp [E22, ri, cellp, ints, Ca.row, Sp.row, lodE3_dec, hP, he, hd, nf3_nil, hSg, hR, hK]) | (refine Also.intro ?_ fun _ => ?_) | (refine Hold.intro fun _ => ?_) | (refine And.intro ?_ ?_))
  | false =>
    have hy : sitO c l f = none := gn rfl
    rw [hy] at hK
    simp only at hK
    simp -dsimp [Try.f22, E22, Ca.row, Sp.row]
    repeat' (first | omega | (simp -dsimp [E22, ri, cellp, ints, Ca.row, Sp.row, lodE3_dec, hP, he, hd, nf3_nil, hSg, hR, hK]) | (refine Also.intro ?_ fun _ => ?_) | (refine Hold.intro fun _ => ?_) | (refine And.intro ?_ ?_))
theorem ok22 : FnOK Try.prog 22 (.pure SitS) := pure_fn (E := E22) rfl (.cons ok27 (.cons (ok49 9) .nil)) (ok := []) (fn := Try.f22) (by kernel_rfl) (by kernel_rfl) (by kernel_rfl) (by kernel_rfl) rfl (fun _ _ => by simp) b22
end Go.Sx
end
