/- A part of a proof; no conditions. -/
import Derived.Test.YtnpdjaikmdagmaaP19
import Derived.SizedLaws
import Derived.Test.YtnpdjaikmdagmaaP10
import Derived.ProofKit
set_option linter.unusedSimpArgs false
set_option linter.unusedVariables false
set_option linter.unusedSectionVars false
section
/- Crew: what is loaded; the reference's moments and centers. No conditions. -/
set_option linter.unusedSimpArgs false
set_option linter.unusedSectionVars false
set_option maxRecDepth 100000
set_option maxHeartbeats 2000000
namespace Go.Sx
open Go.Proofs
attribute [local irreducible] HLe

/-! the moment -/
@[simp] def mtE (d : Ca × List Gu × List Int × Int) : List V := [.agg d.1.row, .sl 4 (d.2.1.map Gu.row), .sl 1 (d.2.2.1.map ri), .int .i64 d.2.2.2]
theorem mtE_inj (a b : Ca × List Gu × List Int × Int) (h : mtE a = mtE b) : a = b := by
  obtain ⟨a1, a2, a3, a4⟩ := a; obtain ⟨b1, b2, b3, b4⟩ := b
  simp only [mtE, List.cons.injEq, V.sl.injEq, V.agg.injEq, V.int.injEq, true_and, and_true] at h
  rw [Ca.row_inj _ _ h.1, mapRow_inj Gu.row_inj h.2.1, map_ri_inj h.2.2.1, h.2.2.2]
theorem mtE_dec (c : Ca) (l : List Gu) (s : List Int) (x : Int) : decC mtE [.agg [.int .i64 c.emp, .int .i64 c.arm, .sl 2 (c.st.map Se.row), .int .i64 c.farm, .int .i64 c.low, .int .i64 c.high], .sl 4 (l.map Gu.row), .sl 1 (s.map ri), .int .i64 x] = (c, l, s, x) := decC_eq mtE_inj (c, l, s, x)
structure MtP (d : Ca × List Gu × List Int × Int) : Prop where
  c : d.1.Fit
  n : d.2.1.length ≤ 8
  g : ∀ g ∈ d.2.1, 1 ≤ g.w ∧ g.w ≤ 500
  x : 0 ≤ d.2.2.2 ∧ d.2.2.2 ≤ 100000
  s : rightB d.1 d.2.1 d.2.2.1 = true
theorem PFit.mt {c : Ca} {l : List Gu} {s : List Int} {f : Sp} (h : PFit (c, l, s, f)) {x : Int} (hx : f.lo ≤ x ∧ x ≤ f.hi) : MtP (c, l, s, x) :=
  ⟨h.f.cf, by have := h.f.n; have := h.f.cf.n; simp only at *; omega, h.f.gf, by have := h.f.ff; simp only at *; omega, h.s⟩
noncomputable abbrev momS : PSpec := mkP mtE MtP fun d => .tup [.int .i64 (mom d.1 d.2.1 d.2.2.1 d.2.2.2), .int .i64 (wgt d.1 d.2.1 d.2.2.2)]
noncomputable abbrev E29 : Env := { P := Try.prog, fn := tbl [], own := [], key := 2900, nt := 59 }
theorem b29 : PureBody E29 [] Try.f29 momS := by
  refine pb ?_
  rintro ⟨c, l, s, x⟩ ⟨hc, hn, hg, hx, hs⟩
  simp only at hc hn hg hx hs
  obtain ⟨hsl, hsq⟩ := seat_of hs
  have hemp := hc.emp
  have m1 := mul_bd (a := c.emp) (A := 100000) (by omega) hc.arm
  have m2 := mul_bd (a := x) (A := 100000) hx hc.farm
  have w1 : IntKind.wrap .i64 (c.emp * c.arm) = c.emp * c.arm := wrap_id (by omega) (by omega)
  have w2 : IntKind.wrap .i64 (x * c.farm) = x * c.farm := wrap_id (by omega) (by omega)
  have w3 : IntKind.wrap .i64 (c.emp * c.arm + x * c.farm) = c.emp * c.arm + x * c.farm := wrap_id (by omega) (by omega)
  have w4 : IntKind.wrap .i64 (c.emp + x) = c.emp + x := wrap_id (by omega) (by omega)
  simp -dsimp [Try.f29, E29, Ca.row]
  repeat' (first | omega | (simp -dsimp [E29, ri, cellp, ints, Ca.row, w1, w2, w3, w4]) | (refine Also.intro ?_ fun _ => ?_) | (refine Hold.intro fun _ => ?_) | (refine And.intro ?_ ?_))
  refine awp_loop [27, 28, 29, 30, 33, 34, 35, 36, 37, 38, 39, 40, 41, 42, 43, 44, 45, 46, 47, 48, 49, 10, 50, 51, 52, 53, 54, 55, 56, 11, 31, 32, 12] (fun k : { k : Nat // k ≤ l.length } => [(12, (true, .int .i64 k.1)), (10, (true, .int .i64 (c.emp * c.arm + x * c.farm + mTo c l s k.1))), (11, (true, .int .i64 (c.emp + x + wTo l k.1)))]) (fun _ => hps [(2904, { base := 0, blks := [{ z := 6, els := [c.row], ty := 49 }] })] noH) (fun k => l.length - k.1) ⟨0, by omega⟩ ?_ ?_ ?_
  · simp [okAll, okv, mTo, wTo]
  · exact (by (try simp -dsimp only [hpush_noH, hpush_hps, hps_over]); refine hle_hps ?_; simp -dsimp [allK, Ca.row]; repeat' (first | (refine And.intro ?_ ?_) | (refine sLe.same ?_ ?_ <;> (simp; done)) | (refine sLe.clear ?_ ?_ <;> (first | (simp; done) | (simp; omega))) | (refine sLe.drop 1 ?_ ?_ ?_ <;> (simp; done))))
  rintro ⟨k, hk⟩
  dsimp only
  have wb := wTo_bd hg k hk
  have mb := mTo_bd hc hg s k hk
  by_cases hk1 : k < l.length
  · have hki : (k : Int) < l.length := by omega
    have wk : IntKind.wrap .i64 ((k : Int) + 1) = (k + 1 : Nat) := wrap_id (by omega) (by omega)
    obtain ⟨u, hu⟩ : ∃ u, l[k]? = some u := ⟨_, List.getElem?_eq_getElem hk1⟩
    have hu' : l[k] = u := (List.getElem?_eq_some_iff.1 hu).2
    have hug : guAt l k = u := by simp [guAt, List.getD, hu]
    have hub := guAt_bd hg hk1
    rw [hug] at hub
    obtain ⟨q, hq, hqn⟩ := hsq k hk1
    have hks : k < s.length := by omega
    have hksi : (k : Int) < s.length := by omega
    have hq' : s[k] = q := (List.getElem?_eq_some_iff.1 hq).2
    obtain ⟨v, hv0⟩ : ∃ v, c.st[q]? = some v := ⟨_, List.getElem?_eq_getElem hqn⟩
    have hv0' : c.st[q] = v := (List.getElem?_eq_some_iff.1 hv0).2
    have hqi : (q : Int) < c.st.length := by omega
    have harm2 : armAt c s k = v.arm := by simp [armAt, List.getD, hq, hv0]
    have hab := armAt_bd hc s k
    rw [harm2] at hab
    have m4 := mul_bd (a := u.w) (A := 500) (by omega) hab
    have hwt : wTo l (k + 1) = wTo l k + u.w := by rw [wTo, hug]
    have hmt : mTo c l s (k + 1) = mTo c l s k + u.w * v.arm := by rw [mTo, hug, harm2]
    have v1 : IntKind.wrap .i64 (u.w * v.arm) = u.w * v.arm := wrap_id (by omega) (by omega)
    have v2 : IntKind.wrap .i64 (c.emp * c.arm + x * c.farm + mTo c l s k + u.w * v.arm) = c.emp * c.arm + x * c.farm + mTo c l s (k + 1) := by rw [wrap_id (by omega) (by omega), hmt]; omega
    have v3 : IntKind.wrap .i64 (c.emp + x + wTo l k + u.w) = c.emp + x + wTo l (k + 1) := by rw [wrap_id (by omega) (by omega), hwt]; omega
    simp -dsimp [hki]
    repeat' (first | omega | (simp -dsimp [E29, ri, cellp, ints, hki, hk1, hks, hksi, hqi, hqn, hu, hu', hq, hq', hv0, hv0', wk, v1, v2, v3, Ca.row, Gu.row, Se.row]) | (refine Also.intro ?_ fun _ => ?_) | (refine Hold.intro fun _ => ?_) | (refine And.intro ?_ ?_))
    refine ⟨k + 1, tle_chain rfl ?_, HLe.refl _, by omega, by omega⟩
    simp [okAll, okv]
  · have hkn : ¬ (k : Int) < l.length := by omega
    have hke : k = l.length := by omega
    subst hke
    have e1 : c.emp * c.arm + x * c.farm + mTo c l s l.length = mom c l s x := by unfold mom; omega
    have e2 : c.emp + x + wTo l l.length = wgt c l x := by unfold wgt; omega
    simp -dsimp [hkn]
    repeat' (first | omega | (simp -dsimp [E29, ri, cellp, ints, hkn, e1, e2]) | (refine Also.intro ?_ fun _ => ?_) | (refine Hold.intro fun _ => ?_) | (refine And.intro ?_ ?_))
theorem ok29 : FnOK Try.prog 29 (.pure momS) := pure_fn (E := E29) rfl LOK.nil (ok := []) (fn := Try.f29) (by kernel_rfl) (by kernel_rfl) (by kernel_rfl) (by kernel_rfl) rfl (fun _ _ => by simp) b29
noncomputable abbrev E65 : Env := { P := Try.prog, fn := tbl [], own := [], key := 6500, nt := 18 }
theorem b65 : PureBody E65 [] Try.f65 floS := by
  refine pb ?_
  rintro ⟨m, w⟩ ⟨hm, hw⟩
  simp only at hm hw
  have hw0 : (w = 0) = False := eq_false (by omega)
  have hb := ediv_bd hw.1 hm
  unfold Far0 at hm hb
  by_cases h0 : 0 ≤ m
  · have hf : m.tdiv w = m / w := Int.tdiv_eq_ediv_of_nonneg h0
    have w1 : IntKind.wrap .i64 (m / w) = m / w := wrap_id (by omega) (by omega)
    simp -dsimp [Try.f65, E65]
    repeat' (first | omega | (simp -dsimp [E65, ri, cellp, ints, hw0, hf, h0, w1]) | (refine Also.intro ?_ fun _ => ?_) | (refine Hold.intro fun _ => ?_) | (refine And.intro ?_ ?_))
  · have h0' : (0 ≤ m) = False := eq_false h0
    have hf := floor_ref m w hw.1 (by omega)
    have w1 : IntKind.wrap .i64 (-m) = -m := wrap_id (by omega) (by omega)
    have w2 : IntKind.wrap .i64 (-m + w) = -m + w := wrap_id (by omega) (by omega)
    have w3 : IntKind.wrap .i64 (-m + w - 1) = -m + w - 1 := wrap_id (by omega) (by omega)
    generalize ht : (-m + w - 1).tdiv w = t at *
    have w4 : IntKind.wrap .i64 t = t := wrap_id (by omega) (by omega)
    have w5 : IntKind.wrap .i64 (-t) = m / w := by rw [wrap_id (by omega) (by omega)]; exact hf
    simp -dsimp [Try.f65, E65]
    repeat' (first | omega | (simp -dsimp [E65, ri, cellp, ints, hw0, h0', w1, w2, w3, ht, w4, w5]) | (refine Also.intro ?_ fun _ => ?_) | (refine Hold.intro fun _ => ?_) | (refine And.intro ?_ ?_))
theorem ok65 : FnOK Try.prog 65 (.pure floS) := pure_fn (E := E65) rfl LOK.nil (ok := []) (fn := Try.f65) (by kernel_rfl) (by kernel_rfl) (by kernel_rfl) (by kernel_rfl) rfl (fun _ _ => by simp) b65
noncomputable abbrev E66 : Env := { P := Try.prog, fn := tbl [(29, .pure momS), (40, .pure withinS)], own := [], key := 6600, nt := 53 }
theorem b66 : PureBody E66 [] Try.f66 balS := by
  refine pb ?_
  rintro ⟨c, l, s, f⟩ hP
  have hP : PFit (c, l, s, f) := hP
  have hff := hP.f.ff
  simp only at hff
  have p1 := hP.mt (x := f.lo) (by omega)
  have p2 := hP.mt (x := f.hi) (by omega)
  have g1 := wgt_bd hP.f (x := f.lo) (by omega)
  have g2 := wgt_bd hP.f (x := f.hi) (by omega)
  have hlow := hP.f.cf.low
  have hhigh := hP.f.cf.high
  simp only at g1 g2 hlow hhigh
  have hB : balB c l f s = (withinB (mom c l s f.lo) (c.low * wgt c l f.lo) (c.high * wgt c l f.lo) && withinB (mom c l s f.hi) (c.low * wgt c l f.hi) (c.high * wgt c l f.hi)) := rfl
  have q1 := mul_bd (a := wgt c l f.lo) (A := 300000) (by omega) hlow
  have q2 := mul_bd (a := wgt c l f.lo) (A := 300000) (by omega) hhigh
  have q3 := mul_bd (a := wgt c l f.hi) (A := 300000) (by omega) hlow
  have q4 := mul_bd (a := wgt c l f.hi) (A := 300000) (by omega) hhigh
  rw [Int.mul_comm _ c.low] at q1 q3
  rw [Int.mul_comm _ c.high] at q2 q4
  have w1 : IntKind.wrap .i64 (c.low * wgt c l f.lo) = c.low * wgt c l f.lo := wrap_id (by omega) (by omega)
  have w2 : IntKind.wrap .i64 (c.high * wgt c l f.lo) = c.high * wgt c l f.lo := wrap_id (by omega) (by omega)
  have w3 : IntKind.wrap .i64 (c.low * wgt c l f.hi) = c.low * wgt c l f.hi := wrap_id (by omega) (by omega)
  have w4 : IntKind.wrap .i64 (c.high * wgt c l f.hi) = c.high * wgt c l f.hi := wrap_id (by omega) (by omega)
  cases h1 : withinB (mom c l s f.lo) (c.low * wgt c l f.lo) (c.high * wgt c l f.lo) <;> rw [h1] at hB
  · simp -dsimp [Try.f66, E66, Ca.row, Sp.row]
    repeat' (first | omega | (simp -dsimp [E66, ri, cellp, ints, Ca.row, Sp.row, mtE_dec, p1, p2, w1, w2, w3, w4, h1, hB]) | (refine Also.intro ?_ fun _ => ?_) | (refine Hold.intro fun _ => ?_) | (refine And.intro ?_ ?_))
  · cases h2 : withinB (mom c l s f.hi) (c.low * wgt c l f.hi) (c.high * wgt c l f.hi) <;> rw [h2] at hB
    all_goals
      simp -dsimp [Try.f66, E66, Ca.row, Sp.row]
      repeat' (first | omega | (simp -dsimp [E66, ri, cellp, ints, Ca.row, Sp.row, mtE_dec, p1, p2, w1, w2, w3, w4, h1, h2, hB]) | (refine Also.intro ?_ fun _ => ?_) | (refine Hold.intro fun _ => ?_) | (refine And.intro ?_ ?_))
theorem ok66 : FnOK Try.prog 66 (.pure balS) := pure_fn (E := E66) rfl (.cons ok29 (.cons ok40 .nil)) (ok := []) (fn := Try.f66) (by kernel_rfl) (by kernel_rfl) (by kernel_rfl) (by kernel_rfl) rfl (fun _ _ => by simp) b66
noncomputable abbrev E33 : Env := { P := Try.prog, fn := tbl [(27, .pure lodS), (64, .pure rightS), (66, .pure balS)], own := [], key := 3300, nt := 28 }
theorem b33 : PureBody E33 [] Try.f33 BalS := by
  refine pb ?_
  rintro ⟨c, l, s, f⟩ hP
  have hP : PcP (c, l, s, f) := hP
  have hL : LoP (c, l, f) := ⟨hP.c, hP.l⟩
  have hR : RtP (c, l, s) := ⟨by have := hP.c; simp only at *; omega, hP.l, hP.s⟩
  have hK : blV c l s f = .tup [.bool (decide (seaE c l s f = 0) && balB c l f s), .int .i64 (seaE c l s f)] := rfl
  have hS : seaE c l s f = if lodE c l f = 0 then (if rightB c l s = true then 0 else 1) else lodE c l f := rfl
  by_cases he : lodE c l f = 0
  · rw [if_pos he] at hS
    cases hr : rightB c l s <;> rw [hr] at hS
    · rw [hS] at hK
      simp -dsimp [Try.f33, E33, Ca.row, Sp.row]
      repeat' (first | omega | (simp -dsimp [E33, ri, cellp, ints, Ca.row, Sp.row, lodE3_dec, rtE_dec, hL, hR, he, hr, hK]) | (refine Also.intro ?_ fun _ => ?_) | (refine Hold.intro fun _ => ?_) | (refine And.intro ?_ ?_))
    · have hS : seaE c l s f = 0 := hS
      have hF := pfit_of hS
      rw [hS] at hK
      simp -dsimp [Try.f33, E33, Ca.row, Sp.row]
      repeat' (first | omega | (simp -dsimp [E33, ri, cellp, ints, Ca.row, Sp.row, lodE3_dec, rtE_dec, pcE_dec, nf2_sl, hL, hR, hF, he, hr, hK]) | (refine Also.intro ?_ fun _ => ?_) | (refine Hold.intro fun _ => ?_) | (refine And.intro ?_ ?_))
  · rw [if_neg he] at hS
    have he' : (lodE c l f = 0) = False := eq_false he
    rw [hS, decide_eq_false he] at hK
    simp -dsimp [Try.f33, E33, Ca.row, Sp.row]
    repeat' (first | omega | (simp -dsimp [E33, ri, cellp, ints, Ca.row, Sp.row, lodE3_dec, hL, he', hK]) | (refine Also.intro ?_ fun _ => ?_) | (refine Hold.intro fun _ => ?_) | (refine And.intro ?_ ?_))
theorem ok33 : FnOK Try.prog 33 (.pure BalS) := pure_fn (E := E33) rfl (.cons ok27 (.cons ok64 (.cons ok66 .nil))) (ok := []) (fn := Try.f33) (by kernel_rfl) (by kernel_rfl) (by kernel_rfl) (by kernel_rfl) rfl (fun _ _ => by simp) b33
noncomputable abbrev E32 : Env := { P := Try.prog, fn := tbl [(27, .pure lodS), (64, .pure rightS), (29, .pure momS), (65, .pure floS)], own := [], key := 3200, nt := 66 }
theorem b32 : PureBody E32 [] Try.f32 CenS := by
  refine pb ?_
  rintro ⟨c, l, s, f⟩ hP
  have hP : PcP (c, l, s, f) := hP
  have hL : LoP (c, l, f) := ⟨hP.c, hP.l⟩
  have hR : RtP (c, l, s) := ⟨by have := hP.c; simp only at *; omega, hP.l, hP.s⟩
  have hS : seaE c l s f = if lodE c l f = 0 then (if rightB c l s = true then 0 else 1) else lodE c l f := rfl
  have hK : cenO c l s f = if seaE c l s f = 0 then cenL c l f s else ⟨0, 0⟩ := rfl
  by_cases he : lodE c l f = 0
  case neg =>
    rw [if_neg he] at hS
    have he' : (lodE c l f = 0) = False := eq_false he
    rw [hS, if_neg he] at hK
    simp -dsimp [Try.f32, E32, Ca.row, Sp.row]
    repeat' (first | omega | (simp -dsimp [E32, ri, cellp, ints, Ca.row, Sp.row, lodE3_dec, hL, he', hS, hK]) | (refine Also.intro ?_ fun _ => ?_) | (refine Hold.intro fun _ => ?_) | (refine And.intro ?_ ?_))
  rw [if_pos he] at hS
  cases hr : rightB c l s <;> rw [hr] at hS
  · have hS : seaE c l s f = 1 := hS
    rw [hS, if_neg (by decide)] at hK
    simp -dsimp [Try.f32, E32, Ca.row, Sp.row]
    repeat' (first | omega | (simp -dsimp [E32, ri, cellp, ints, Ca.row, Sp.row, lodE3_dec, rtE_dec, hL, hR, he, hr, hS, hK]) | (refine Also.intro ?_ fun _ => ?_) | (refine Hold.intro fun _ => ?_) | (refine And.intro ?_ ?_))
  have hS : seaE c l s f = 0 := hS
  have hF := pfit_of hS
  rw [if_pos hS] at hK
  have hff := hF.f.ff
  simp only at hff
  have p1 := hF.mt (x := f.lo) (by omega)
  have p2 := hF.mt (x := f.hi) (by omega)
  have g1 := wgt_bd hF.f (x := f.lo) (by omega)
  have g2 := wgt_bd hF.f (x := f.hi) (by omega)
  have m1 := mom_bd hF.f s (x := f.lo) (by omega)
  have m2 := mom_bd hF.f s (x := f.hi) (by omega)
  simp only at g1 g2 m1 m2
  have hC : cenL c l f s = ⟨min (mom c l s f.lo / wgt c l f.lo) (mom c l s f.hi / wgt c l f.hi), max (-(-mom c l s f.lo / wgt c l f.lo)) (-(-mom c l s f.hi / wgt c l f.hi))⟩ := rfl
  rw [hC] at hK
  have F1 : FlP (mom c l s f.lo, wgt c l f.lo) := ⟨⟨by simp only; omega, by simp only; omega⟩, g1.1, by simp only; omega⟩
  have F2 : FlP (mom c l s f.hi, wgt c l f.hi) := ⟨⟨by simp only; omega, by simp only; omega⟩, g2.1, by simp only; omega⟩
  have F3 : FlP (-mom c l s f.lo, wgt c l f.lo) := ⟨⟨by simp only; omega, by simp only; omega⟩, g1.1, by simp only; omega⟩
  have F4 : FlP (-mom c l s f.hi, wgt c l f.hi) := ⟨⟨by simp only; omega, by simp only; omega⟩, g2.1, by simp only; omega⟩
  have b3 := ediv_bd g1.1 F3.n
  have b4 := ediv_bd g2.1 F4.n
  simp only [Far0] at b3 b4
  have n1 : IntKind.wrap .i64 (-mom c l s f.lo) = -mom c l s f.lo := wrap_id (by omega) (by omega)
  have n2 : IntKind.wrap .i64 (-mom c l s f.hi) = -mom c l s f.hi := wrap_id (by omega) (by omega)
  generalize hq1 : mom c l s f.lo / wgt c l f.lo = q1 at *
  generalize hq2 : mom c l s f.hi / wgt c l f.hi = q2 at *
  generalize hq3 : -mom c l s f.lo / wgt c l f.lo = q3 at *
  generalize hq4 : -mom c l s f.hi / wgt c l f.hi = q4 at *
  have n3 : IntKind.wrap .i64 (-q3) = -q3 := wrap_id (by omega) (by omega)
  have n4 : IntKind.wrap .i64 (-q4) = -q4 := wrap_id (by omega) (by omega)
  have e1 : (if q2 < q1 then q2 else q1) = min q1 q2 := by split <;> omega
  have e2 : (if -q3 < -q4 then -q4 else -q3) = max (-q3) (-q4) := by split <;> omega
  have e2' : (if q4 < q3 then -q4 else -q3) = max (-q3) (-q4) := by split <;> omega
  simp -dsimp [Try.f32, E32, Ca.row, Sp.row]
  repeat' (first | omega | (simp -dsimp [E32, ri, cellp, ints, Ca.row, Sp.row, lodE3_dec, rtE_dec, mtE_dec, flE_dec, hL, hR, he, hr, p1, p2, F1, F2, F3, F4, n1, n2, hq1, hq2, hq3, hq4, n3, n4, e1, e2, e2', hS, hK]) | (refine Also.intro ?_ fun _ => ?_) | (refine Hold.intro fun _ => ?_) | (refine And.intro ?_ ?_))
theorem ok32 : FnOK Try.prog 32 (.pure CenS) := pure_fn (E := E32) rfl (.cons ok27 (.cons ok64 (.cons ok29 (.cons ok65 .nil)))) (ok := []) (fn := Try.f32) (by kernel_rfl) (by kernel_rfl) (by kernel_rfl) (by kernel_rfl) rfl (fun _ _ => by simp) b32

/-! what is loaded -/
def lddO (c : Ca) (l : List Gu) (f : Sp) : Sp := if lodE c l f = 0 then ⟨c.emp + wTo l l.length + f.lo, c.emp + wTo l l.length + f.hi⟩ else ⟨0, 0⟩
noncomputable abbrev lddS : PSpec := mkP lodE3 LoP fun d => .tup [.agg (lddO d.1 d.2.1 d.2.2).row, .int .i64 (lodE d.1 d.2.1 d.2.2)]
noncomputable abbrev E30 : Env := { P := Try.prog, fn := tbl [(45, .pure lodS)], own := [], key := 3000, nt := 42 }
theorem b30 : PureBody E30 [] Try.f30 lddS := by
  refine pb ?_
  rintro ⟨c, l, f⟩ hP
  have hP : LoP (c, l, f) := hP
  have hK : lddO c l f = if lodE c l f = 0 then ⟨c.emp + wTo l l.length + f.lo, c.emp + wTo l l.length + f.hi⟩ else ⟨0, 0⟩ := rfl
  by_cases he : lodE c l f = 0
  case neg =>
    have he' : (lodE c l f = 0) = False := eq_false he
    rw [if_neg he] at hK
    simp -dsimp [Try.f30, E30, Ca.row, Sp.row]
    repeat' (first | omega | (simp -dsimp [E30, ri, cellp, ints, Ca.row, Sp.row, lodE3_dec, hP, he', hK]) | (refine Also.intro ?_ fun _ => ?_) | (refine Hold.intro fun _ => ?_) | (refine And.intro ?_ ?_))
  rw [if_pos he] at hK
  have hL := lodE_zero he
  have hemp := hL.cf.emp
  have hff := hL.ff
  have hn8 : l.length ≤ 8 := by have := hL.n; have := hL.cf.n; omega
  simp -dsimp [Try.f30, E30, Ca.row, Sp.row]
  repeat' (first | omega | (simp -dsimp [E30, ri, cellp, ints, Ca.row, Sp.row, lodE3_dec, hP, he]) | (refine Also.intro ?_ fun _ => ?_) | (refine Hold.intro fun _ => ?_) | (refine And.intro ?_ ?_))
  refine awp_loop [25, 26, 27, 11, 28, 29, 30, 31, 9, 32, 24] (fun k : { k : Nat // k ≤ l.length } => [(24, (true, .int .i64 k.1)), (9, (true, .int .i64 (c.emp + wTo l k.1)))]) (fun k => hps [(3011, { base := k.1, blks := [] }), (3003, { base := 0, blks := [{ z := 6, els := [c.row], ty := 49 }] }), (3005, { base := 0, blks := [{ z := 2, els := [f.row], ty := 51 }] }), (3006, { base := 0, blks := [{ z := 2, els := [[.int .i64 0, .int .i64 0]], ty := 51 }] })] noH) (fun k => l.length - k.1) ⟨0, by omega⟩ ?_ ?_ ?_
  · simp [okAll, okv, wTo]
  · exact (by (try simp -dsimp only [hpush_noH, hpush_hps, hps_over]); refine hle_hps ?_; simp -dsimp [allK, Ca.row, Sp.row]; repeat' (first | (refine And.intro ?_ ?_) | (refine sLe.same ?_ ?_ <;> (simp; done)) | (refine sLe.clear ?_ ?_ <;> (first | (simp; done) | (simp; omega))) | (refine sLe.drop 1 ?_ ?_ ?_ <;> (simp; done))))
  rintro ⟨k, hk⟩
  dsimp only
  have wb := wTo_bd hL.gf k hk
  by_cases hk1 : k < l.length
  · have hki : (k : Int) < l.length := by omega
    have wk : IntKind.wrap .i64 ((k : Int) + 1) = (k + 1 : Nat) := wrap_id (by omega) (by omega)
    obtain ⟨u, hu⟩ : ∃ u, l[k]? = some u := ⟨_, List.getElem?_eq_getElem hk1⟩
    have hu' : l[k] = u := (List.getElem?_eq_some_iff.1 hu).2
    have hug : guAt l k = u := by simp [guAt, List.getD, hu]
    have hub := guAt_bd hL.gf hk1
    rw [hug] at hub
    have hwt : wTo l (k + 1) = wTo l k + u.w := by rw [wTo, hug]
    have v3 : IntKind.wrap .i64 (c.emp + wTo l k + u.w) = c.emp + wTo l (k + 1) := by rw [wrap_id (by omega) (by omega), hwt]; omega
    simp -dsimp [hki]
    repeat' (first | omega | (simp -dsimp [E30, ri, cellp, ints, hki, hk1, hu, hu', wk, v3, Ca.row, Gu.row, Sp.row]) | (refine Also.intro ?_ fun _ => ?_) | (refine Hold.intro fun _ => ?_) | (refine And.intro ?_ ?_))
    refine ⟨k + 1, tle_chain rfl ?_, ?_, by omega, by omega⟩
    · simp [okAll, okv]
    · exact (by (try simp -dsimp only [hpush_noH, hpush_hps, hps_over]); refine hle_hps ?_; simp -dsimp [allK, Ca.row, Sp.row]; repeat' (first | (refine And.intro ?_ ?_) | (refine sLe.same ?_ ?_ <;> (simp; done)) | (refine sLe.clear ?_ ?_ <;> (first | (simp; done) | (simp; omega))) | (refine sLe.drop 1 ?_ ?_ ?_ <;> (simp; done))))
  · have hkn : ¬ (k : Int) < l.length := by omega
    have hke : k = l.length := by omega
    subst hke
    have e1 : IntKind.wrap .i64 (c.emp + wTo l l.length + f.lo) = c.emp + wTo l l.length + f.lo := wrap_id (by omega) (by omega)
    have e2 : IntKind.wrap .i64 (c.emp + wTo l l.length + f.hi) = c.emp + wTo l l.length + f.hi := wrap_id (by omega) (by omega)
    simp -dsimp [hkn]
    repeat' (first | omega | (simp -dsimp [E30, ri, cellp, ints, hkn, e1, e2, Ca.row, Sp.row, he, hK]) | (refine Also.intro ?_ fun _ => ?_) | (refine Hold.intro fun _ => ?_) | (refine And.intro ?_ ?_))
theorem ok30 : FnOK Try.prog 30 (.pure lddS) := pure_fn (E := E30) rfl (.cons ok45 .nil) (ok := []) (fn := Try.f30) (by kernel_rfl) (by kernel_rfl) (by kernel_rfl) (by kernel_rfl) rfl (fun _ _ => by simp) b30
noncomputable abbrev E31 : Env := { P := Try.prog, fn := tbl [(27, .pure lodS)], own := [], key := 3100, nt := 43 }
theorem b31 : PureBody E31 [] Try.f31 lddS := by
  refine pb ?_
  rintro ⟨c, l, f⟩ hP
  have hP : LoP (c, l, f) := hP
  have hK : lddO c l f = if lodE c l f = 0 then ⟨c.emp + wTo l l.length + f.lo, c.emp + wTo l l.length + f.hi⟩ else ⟨0, 0⟩ := rfl
  by_cases he : lodE c l f = 0
  case neg =>
    have he' : (lodE c l f = 0) = False := eq_false he
    rw [if_neg he] at hK
    simp -dsimp [Try.f31, E31, Ca.row, Sp.row]
    repeat' (first | omega | (simp -dsimp [E31, ri, cellp, ints, Ca.row, Sp.row, lodE3_dec, hP, he', hK]) | (refine Also.intro ?_ fun _ => ?_) | (refine Hold.intro fun _ => ?_) | (refine And.intro ?_ ?_))
  rw [if_pos he] at hK
  have hL := lodE_zero he
  have hemp := hL.cf.emp
  have hff := hL.ff
  have hn8 : l.length ≤ 8 := by have := hL.n; have := hL.cf.n; omega
  simp -dsimp [Try.f31, E31, Ca.row, Sp.row]
  repeat' (first | omega | (simp -dsimp [E31, ri, cellp, ints, Ca.row, Sp.row, lodE3_dec, hP, he]) | (refine Also.intro ?_ fun _ => ?_) | (refine Hold.intro fun _ => ?_) | (refine And.intro ?_ ?_))
  refine awp_loop [21, 22, 23, 24, 27, 28, 29, 30, 31, 32, 33, 9, 25, 26, 10] (fun k : { k : Nat // k ≤ l.length } => [(10, (true, .int .i64 k.1)), (9, (true, .int .i64 (c.emp + wTo l k.1)))]) (fun k => hps [(3103, { base := 0, blks := [{ z := 6, els := [c.row], ty := 49 }] }), (3105, { base := 0, blks := [{ z := 2, els := [f.row], ty := 51 }] }), (3106, { base := 0, blks := [{ z := 2, els := [[.int .i64 0, .int .i64 0]], ty := 51 }] })] noH) (fun k => l.length - k.1) ⟨0, by omega⟩ ?_ ?_ ?_
  · simp [okAll, okv, wTo]
  · exact (by (try simp -dsimp only [hpush_noH, hpush_hps, hps_over]); refine hle_hps ?_; simp -dsimp [allK, Ca.row, Sp.row]; repeat' (first | (refine And.intro ?_ ?_) | (refine sLe.same ?_ ?_ <;> (simp; done)) | (refine sLe.clear ?_ ?_ <;> (first | (simp; done) | (simp; omega))) | (refine sLe.drop 1 ?_ ?_ ?_ <;> (simp; done))))
  rintro ⟨k, hk⟩
  dsimp only
  have wb := wTo_bd hL.gf k hk
  by_cases hk1 : k < l.length
  · have hki : (k : Int) < l.length := by omega
    have wk : IntKind.wrap .i64 ((k : Int) + 1) = (k + 1 : Nat) := wrap_id (by omega) (by omega)
    obtain ⟨u, hu⟩ : ∃ u, l[k]? = some u := ⟨_, List.getElem?_eq_getElem hk1⟩
    have hu' : l[k] = u := (List.getElem?_eq_some_iff.1 hu).2
    have hug : guAt l k = u := by simp [guAt, List.getD, hu]
    have hub := guAt_bd hL.gf hk1
    rw [hug] at hub
    have hwt : wTo l (k + 1) = wTo l k + u.w := by rw [wTo, hug]
    have v3 : IntKind.wrap .i64 (c.emp + wTo l k + u.w) = c.emp + wTo l (k + 1) := by rw [wrap_id (by omega) (by omega), hwt]; omega
    simp -dsimp [hki]
    repeat' (first | omega | (simp -dsimp [E31, ri, cellp, ints, hki, hk1, hu, hu', wk, v3, Ca.row, Gu.row, Sp.row]) | (refine Also.intro ?_ fun _ => ?_) | (refine Hold.intro fun _ => ?_) | (refine And.intro ?_ ?_))
    refine ⟨k + 1, tle_chain rfl ?_, ?_, by omega, by omega⟩
    · simp [okAll, okv]
    · exact (by (try simp -dsimp only [hpush_noH, hpush_hps, hps_over]); refine hle_hps ?_; simp -dsimp [allK, Ca.row, Sp.row]; repeat' (first | (refine And.intro ?_ ?_) | (refine sLe.same ?_ ?_ <;> (simp; done)) | (refine sLe.clear ?_ ?_ <;> (first | (simp; done) | (simp; omega))) | (refine sLe.drop 1 ?_ ?_ ?_ <;> (simp; done))))
  · have hkn : ¬ (k : Int) < l.length := by omega
    have hke : k = l.length := by omega
    subst hke
    have e1 : IntKind.wrap .i64 (c.emp + wTo l l.length + f.lo) = c.emp + wTo l l.length + f.lo := wrap_id (by omega) (by omega)
    have e2 : IntKind.wrap .i64 (c.emp + wTo l l.length + f.hi) = c.emp + wTo l l.length + f.hi := wrap_id (by omega) (by omega)
    simp -dsimp [hkn]
    repeat' (first | omega | (simp -dsimp [E31, ri, cellp, ints, hkn, e1, e2, Ca.row, Sp.row, he, hK]) | (refine Also.intro ?_ fun _ => ?_) | (refine Hold.intro fun _ => ?_) | (refine And.intro ?_ ?_))
theorem ok31 : FnOK Try.prog 31 (.pure lddS) := pure_fn (E := E31) rfl (.cons ok27 .nil) (ok := []) (fn := Try.f31) (by kernel_rfl) (by kernel_rfl) (by kernel_rfl) (by kernel_rfl) rfl (fun _ _ => by simp) b31
end Go.Sx
end
section
/- Reading what a call is handed: data that can be read, as abstract values; the frame of a law that returns true. No conditions. -/
set_option linter.unusedSimpArgs false
namespace Go.Sx
open Go.RowKit
variable [Gls]

def tiles (P : Program) : List Field → Nat → Nat → Bool
  | [], o, n => o == n
  | fl :: r, o, n => fl.offset == o && tiles P r (o + P.cellsOf fl.type) n

/-- A type of plain data. -/
def plain (P : Program) : Nat → TypeId → Bool
  | 0, _ => false
  | f + 1, t => match P.underlying t with
    | some .bool => true
    | some (.int _) => true
    | some (.slice e) => decide (0 < P.cellsOf e) && plain P f e
    | some (.struct fs) => tiles P fs.toList 0 (P.cellsOf t) && fs.toList.all fun fl => plain P f fl.type
    | some (.array n e) => decide (n * P.cellsOf e = P.cellsOf t) && plain P f e
    | _ => false

/-- The cells' shape, by their type. -/
def tyV (P : Program) : Nat → TypeId → List V → Prop
  | 0, _, _ => False
  | f + 1, t, vs => match P.underlying t with
    | some .bool => ∃ b, vs = [.bool b]
    | some (.int k) => ∃ n, vs = [.int k n] ∧ (Lit.int k n).wf = true
    | some (.slice e) => ∃ els, vs = [.sl (P.cellsOf e) els] ∧ els.length ≤ maxLen ∧ els.length * P.bytesOf e ≤ reachBytes ∧ ∀ row ∈ els, tyV P f e row
    | some (.struct fs) => vs.length = P.cellsOf t ∧ ∀ fl ∈ fs.toList, tyV P f fl.type ((vs.drop fl.offset).take (P.cellsOf fl.type))
    | some (.array n e) => vs.length = P.cellsOf t ∧ ∀ i, i < n → tyV P f e ((vs.drop (i * P.cellsOf e)).take (P.cellsOf e))
    | _ => False

/-- Cells and what is known of them. -/
def CV (w : World) (vs : List V) (cs : List Value) : Prop := vs.length = cs.length ∧ ∀ i c, vs[i]? = some c → PV w (fun _ => False) c (cs.getD i und) ∧ (cs.getD i und).oneCell' = true

omit [Gls] in
theorem CV.nil (w : World) : CV w [] [] := ⟨rfl, fun i c h => by simp at h⟩
omit [Gls] in
theorem CV.append {w : World} {a b : List V} {x y : List Value} (h : CV w a x) (k : CV w b y) : CV w (a ++ b) (x ++ y) := by
  refine ⟨by simp [h.1, k.1], fun i c hc => ?_⟩
  rw [List.getElem?_append] at hc
  split at hc
  · rename_i hi
    have := h.2 i c hc
    rw [List.getD_eq_getElem?_getD, List.getElem?_append_left (by rw [← h.1]; exact hi), ← List.getD_eq_getElem?_getD]
    exact this
  · rename_i hi
    have := k.2 _ c hc
    rw [List.getD_eq_getElem?_getD, List.getElem?_append_right (by rw [← h.1]; omega), ← h.1, ← List.getD_eq_getElem?_getD]
    exact this
omit [Gls] in
theorem CV.one {w : World} {x : V} {v : Value} (h : PV w (fun _ => False) x v) (h1 : v.oneCell' = true) : CV w [x] [v] := by
  refine ⟨rfl, fun i c hc => ?_⟩
  cases i with
  | zero => simp at hc; subst hc; exact ⟨h, h1⟩
  | succ i => simp at hc

omit [Gls] in
theorem mapM_all {α β : Type} {f : α → Option β} : ∀ {l : List α} {ys : List β}, l.mapM f = some ys → ∀ x ∈ l, ∃ y, f x = some y
  | [], _, _, x, hx => by simp at hx
  | a :: l, ys, h, x, hx => by
    rw [List.mapM_cons] at h
    cases ha : f a with
    | none => simp [ha] at h
    | some b =>
      simp only [ha, Option.bind_eq_bind, Option.bind_some] at h
      cases hl : l.mapM f with
      | none => simp [hl] at h
      | some bs =>
        rcases List.mem_cons.1 hx with rfl | hx
        · exact ⟨b, ha⟩
        · exact mapM_all hl x hx

/-- No reading of these is heavier than memory. -/
def wOK {H : Type} (P : Program) (t : TypeId) (d : DataW H) : Prop := ∀ n ∈ d.weights P t, n ≤ reachBytes
omit [Gls] in
theorem wOK_each {α H : Type} {P : Program} {f : α → Option (DataW H × List MemPlace)} {ty : α → TypeId} : ∀ {l : List α} {ys : List (DataW H × List MemPlace)}, l.mapM f = some ys → (∀ n ∈ DataW.weightsEach P (l.map ty) (ys.map (·.1)), n ≤ reachBytes) → ∀ x ∈ l, ∃ y, f x = some y ∧ wOK P (ty x) y.1
  | [], _, _, _, x, hx => by simp at hx
  | a :: l, ys, h, hw, x, hx => by
    rw [List.mapM_cons] at h
    cases ha : f a with
    | none => simp [ha] at h
    | some b =>
      simp only [ha, Option.bind_eq_bind, Option.bind_some] at h
      cases hl : l.mapM f with
      | none => simp [hl] at h
      | some bs =>
        simp only [hl, Option.bind_some, Option.pure_def, Option.some.injEq] at h
        subst h
        simp only [List.map_cons, DataW.weightsEach, List.mem_append] at hw
        rcases List.mem_cons.1 hx with rfl | hx
        · exact ⟨b, ha, fun n hn => hw n (.inl hn)⟩
        · exact wOK_each hl (fun n hn => hw n (.inr hn)) x hx
omit [Gls] in
theorem wOK_all {H : Type} {P : Program} {e : TypeId} : ∀ {ds : List (DataW H)}, (∀ n ∈ DataW.weightsAll P e ds, n ≤ reachBytes) → ∀ d ∈ ds, wOK P e d
  | [], _, d, hd => by simp at hd
  | a :: ds, hw, d, hd => by
    simp only [DataW.weightsAll, List.mem_append] at hw
    rcases List.mem_cons.1 hd with rfl | hd
    · exact fun n hn => hw n (.inl hn)
    · exact wOK_all (fun n hn => hw n (.inr hn)) d hd
omit [Gls] in
theorem mapM_mem {α β : Type} {f : α → Option β} : ∀ {l : List α} {ys : List β}, l.mapM f = some ys → ∀ x ∈ l, ∃ y ∈ ys, f x = some y
  | [], _, _, x, hx => by simp at hx
  | a :: l, ys, h, x, hx => by
    rw [List.mapM_cons] at h
    cases ha : f a with
    | none => simp [ha] at h
    | some b =>
      simp only [ha, Option.bind_eq_bind, Option.bind_some] at h
      cases hl : l.mapM f with
      | none => simp [hl] at h
      | some bs =>
        simp only [hl, Option.bind_some, Option.pure_def, Option.some.injEq] at h
        subst h
        rcases List.mem_cons.1 hx with rfl | hx
        · exact ⟨b, by simp, ha⟩
        · obtain ⟨y, hy, e⟩ := mapM_mem hl x hx; exact ⟨y, by simp [hy], e⟩

section
variable {H : Type} {enc : TypeId × Value → H} {P : Program} {w : World} {base : Nat} {spare : Nat → Bool} {held : Bool}

omit [Gls] in
theorem struct_cells {f : Nat} {cs : List Value} (ih : ∀ (fl : Field), plain P f fl.type = true → ∀ (cs : List Value), (∃ fuel x, DataW.trod enc P w base spare held fuel fl.type cs = some x ∧ wOK P fl.type x.1) → cs.length = P.cellsOf fl.type → ∃ vs, CV w vs cs ∧ tyV P f fl.type vs) :
    ∀ (fs : List Field) (o n : Nat), tiles P fs o n = true → cs.length = n → o ≤ n → (∀ fl ∈ fs, plain P f fl.type = true ∧ ∃ fuel x, DataW.trod enc P w base spare held fuel fl.type ((cs.drop fl.offset).take (P.cellsOf fl.type)) = some x ∧ wOK P fl.type x.1) →
      ∃ vs, CV w vs (cs.drop o) ∧ (∀ fl ∈ fs, o ≤ fl.offset ∧ tyV P f fl.type ((vs.drop (fl.offset - o)).take (P.cellsOf fl.type)))
  | [], o, n, ht, hl, ho, _ => by
    simp only [tiles, beq_iff_eq] at ht
    refine ⟨[], ?_, by simp⟩
    rw [List.drop_eq_nil_of_le (by omega)]
    exact .nil w
  | fl :: fs, o, n, ht, hl, ho, hall => by
    simp only [tiles, Bool.and_eq_true, beq_iff_eq] at ht
    obtain ⟨rfl, ht⟩ := ht
    obtain ⟨hp, hr⟩ := hall fl (by simp)
    have hle : fl.offset + P.cellsOf fl.type ≤ n := by
      have : ∀ (fs : List Field) (o : Nat), tiles P fs o n = true → o ≤ n := by
        intro fs
        induction fs with
        | nil => intro o h; simp only [tiles, beq_iff_eq] at h; omega
        | cons g r ih2 => intro o h; simp only [tiles, Bool.and_eq_true, beq_iff_eq] at h; have := ih2 _ h.2; omega
      exact this fs _ ht
    have hlen : ((cs.drop fl.offset).take (P.cellsOf fl.type)).length = P.cellsOf fl.type := by simp; omega
    obtain ⟨v1, c1, t1⟩ := ih fl hp _ hr hlen
    obtain ⟨v2, c2, t2⟩ := struct_cells ih fs _ n ht hl hle (fun g hg => hall g (by simp [hg]))
    have hv1 : v1.length = P.cellsOf fl.type := by rw [c1.1, hlen]
    refine ⟨v1 ++ v2, ?_, fun g hg => ?_⟩
    · have := c1.append c2
      rwa [← List.drop_drop, List.take_append_drop] at this
    · rcases List.mem_cons.1 hg with rfl | hg
      · refine ⟨Nat.le_refl _, ?_⟩
        rw [Nat.sub_self, List.drop_zero, List.take_append_of_le_length (by omega), List.take_of_length_le (by omega)]
        exact t1
      · obtain ⟨h1, h2⟩ := t2 g hg
        refine ⟨by omega, ?_⟩
        rw [List.drop_append, List.drop_eq_nil_of_le (by omega), List.nil_append, hv1, show g.offset - fl.offset - P.cellsOf fl.type = g.offset - (fl.offset + P.cellsOf fl.type) by omega]
        exact h2

omit [Gls] in
theorem array_cells {f : Nat} {e : TypeId} {cs : List Value} (ih : ∀ (cs : List Value), (∃ fuel x, DataW.trod enc P w base spare held fuel e cs = some x ∧ wOK P e x.1) → cs.length = P.cellsOf e → ∃ vs, CV w vs cs ∧ tyV P f e vs) {n : Nat}
    (hl : cs.length = n * P.cellsOf e) (hall : ∀ i, i < n → ∃ fuel x, DataW.trod enc P w base spare held fuel e ((cs.drop (i * P.cellsOf e)).take (P.cellsOf e)) = some x ∧ wOK P e x.1) :
    ∀ k, k ≤ n → ∃ vs, CV w vs (cs.take (k * P.cellsOf e)) ∧ ∀ i, i < k → tyV P f e ((vs.drop (i * P.cellsOf e)).take (P.cellsOf e))
  | 0, _ => ⟨[], by simpa using CV.nil w, fun i h => by omega⟩
  | k + 1, hk => by
    obtain ⟨v1, c1, t1⟩ := array_cells ih hl hall k (by omega)
    have hlt : (k + 1) * P.cellsOf e ≤ n * P.cellsOf e := Nat.mul_le_mul_right _ hk
    rw [Nat.add_mul, Nat.one_mul] at hlt
    obtain ⟨v2, c2, t2⟩ := ih _ (hall k (by omega)) (by simp; omega)
    have hv1 : v1.length = k * P.cellsOf e := by rw [c1.1]; simp; omega
    have hv2 : v2.length = P.cellsOf e := by rw [c2.1]; simp; omega
    refine ⟨v1 ++ v2, ?_, fun i hi => ?_⟩
    · have := c1.append c2
      rw [Nat.add_mul, Nat.one_mul, List.take_add]
      exact this
    · by_cases hik : i < k
      · have h1 : (i + 1) * P.cellsOf e ≤ k * P.cellsOf e := Nat.mul_le_mul_right _ hik
        rw [Nat.add_mul, Nat.one_mul] at h1
        rw [List.drop_append_of_le_length (by omega), List.take_append_of_le_length (by simp; omega)]
        exact t1 i hik
      · have : i = k := by omega
        subst this
        rw [List.drop_append, List.drop_eq_nil_of_le (by omega), List.nil_append, hv1, Nat.sub_self, List.drop_zero, List.take_of_length_le (by omega)]
        exact t2

omit [Gls] in
theorem read_cells : ∀ (f : Nat) (t : TypeId) (cs : List Value), plain P f t = true → (∃ fuel x, DataW.trod enc P w base spare held fuel t cs = some x ∧ wOK P t x.1) → cs.length = P.cellsOf t → ∃ vs, CV w vs cs ∧ tyV P f t vs
  | 0, t, cs, hp, _, _ => by simp [plain] at hp
  | f + 1, t, cs, hp, ⟨fuel, x, hx, hwx⟩, hlen => by
    cases fuel with
    | zero => simp [DataW.trod] at hx
    | succ fuel =>
    simp only [plain] at hp
    cases hu : P.underlying t with
    | none => simp [hu] at hp
    | some u =>
    rw [hu] at hp
    simp only [tyV, hu]
    cases u <;> simp only at hp ⊢ <;> try (cases hp; done)
    case bool =>
      unfold DataW.trod at hx
      rw [hu] at hx
      split at hx <;> simp_all
      refine ⟨_, .one (.bool _) rfl, ?_⟩
      simp
    case int k =>
      unfold DataW.trod at hx
      rw [hu] at hx
      split at hx <;> simp_all
      obtain ⟨⟨rfl, h1⟩, _⟩ := hx
      exact ⟨_, .one (.int _ _) rfl, _, rfl, h1⟩
    case slice e =>
      simp only [Bool.and_eq_true, decide_eq_true_eq] at hp
      rcases DataW.trod_slice hu hx with ⟨rfl, rfl⟩ | ⟨a, len, cap, elems, rest, n, hn, rfl, rfl, hb, hl, hm, hlen2, hel, hsp, hns⟩
      · exact ⟨_, .one (.sl0 (P.cellsOf e) none 0) rfl, [], rfl, by simp, by simp, by simp⟩
      by_cases h0 : len = 0
      · subst h0
        exact ⟨_, .one (.sl0 (P.cellsOf e) (some a) cap) rfl, [], rfl, by simp, by simp, by simp⟩
      unfold wOK DataW.weights at hwx
      rw [hu] at hwx
      simp only [List.length_map, List.mem_cons, List.mem_append] at hwx
      have hbig := hwx _ (.inl rfl)
      have hbl : elems.length * P.bytesOf e ≤ reachBytes := Nat.le_trans (Nat.mul_le_mul_right _ (Nat.le_add_right _ _)) hbig
      have hwe : ∀ d ∈ elems.map (·.1), wOK P e d := wOK_all fun n hn => hwx n (.inr (.inl hn))
      have each : ∀ i, i < len → ∃ row vs, w.cells? base (a.add (i * P.cellsOf e)) (P.cellsOf e) = some row ∧ row.length = P.cellsOf e ∧ CV w vs row ∧ tyV P f e vs := by
        intro i hi
        have h1 := hel i hi
        have h2 : elems[i]? = some elems[i] := List.getElem?_eq_getElem (by omega)
        rw [h2, Option.bind_eq_some_iff] at h1
        obtain ⟨row, h3, h4⟩ := h1
        have h5 := (World.cells?_some h3).2.1
        obtain ⟨vs, c, ty⟩ := read_cells f e row hp.2 ⟨n, _, h4, hwe _ (List.mem_map.2 ⟨_, List.getElem_mem _, rfl⟩)⟩ h5
        exact ⟨row, vs, h3, h5, c, ty⟩
      obtain ⟨row0, _, g1, g2, _, _⟩ := each 0 (by omega)
      have hspot : a.spot = none := by
        have h3 := (World.cells?_some g1).2.2 0 hp.1
        simp only [Nat.zero_mul] at h3
        have h4 : row0[0]? = some row0[0] := List.getElem?_eq_getElem (by omega)
        have e0 : (a.add 0).add 0 = a := by simp [Addr.add]
        rw [h4, e0] at h3
        unfold World.cell? at h3
        split at h3
        · split at h3
          · cases h3
          · rename_i hs; simpa using hs
        · cases h3
      have hlt : a.block < w.heap.size := by
        have h3 := (World.cells?_some g1).2.2 0 hp.1
        simp only [Nat.zero_mul] at h3
        have h4 : row0[0]? = some row0[0] := List.getElem?_eq_getElem (by omega)
        have e0 : (a.add 0).add 0 = a := by simp [Addr.add]
        rw [h4, e0] at h3
        unfold World.cell? at h3
        split at h3
        · rename_i hh; exact (Array.getElem?_eq_some_iff.1 hh).1
        · cases h3
      have haddr : ∀ i j, (a.add (i * P.cellsOf e)).add j = ⟨a.block, a.off + i * P.cellsOf e + j, none⟩ := by
        intro i j
        obtain ⟨b, off, sp⟩ := a
        simp only at hspot
        subst hspot
        unfold Addr.add
        by_cases h1 : i * P.cellsOf e = 0
        · rw [if_pos h1]
          by_cases h2 : j = 0
          · rw [if_pos h2]; simp [h1, h2]
          · rw [if_neg h2]; simp [h1]
        · rw [if_neg h1]
          by_cases h2 : j = 0
          · rw [if_pos h2]; simp [h2]
          · rw [if_neg h2]
      -- the rows
      have rows : ∀ k, k ≤ len → ∃ els : List (List V), els.length = k ∧ ∀ i row, els[i]? = some row → tyV P f e row ∧ ∃ vs, w.cells? base (a.add (i * P.cellsOf e)) (P.cellsOf e) = some vs ∧ vs.length = P.cellsOf e ∧ CV w row vs := by
        intro k
        induction k with
        | zero => intro _; exact ⟨[], rfl, by simp⟩
        | succ k ih =>
          intro hk
          obtain ⟨els, h1, h2⟩ := ih (by omega)
          obtain ⟨row, vs, h3, h4, h5, h6⟩ := each k (by omega)
          refine ⟨els ++ [vs], by simp [h1], fun i r hr => ?_⟩
          rw [List.getElem?_append] at hr
          split at hr
          · exact h2 i r hr
          · rename_i hi
            have : i - els.length = 0 := by
              cases hd : i - els.length with
              | zero => rfl
              | succ m => rw [hd] at hr; simp at hr
            rw [this] at hr
            simp only [List.getElem?_cons_zero, Option.some.injEq] at hr
            subst hr
            have : i = k := by omega
            subst this
            exact ⟨h6, row, h3, h4, h5⟩
      obtain ⟨els, l1, l2⟩ := rows len (Nat.le_refl _)
      refine ⟨[.sl (P.cellsOf e) els], .one ?_ rfl, els, rfl, by omega, by rw [l1, ← hlen2]; exact hbl, fun row hrow => ?_⟩
      · have hcell : ∀ i j row c, els[i]? = some row → row[j]? = some c → ∃ u, w.cell? ⟨a.block, a.off + i * P.cellsOf e + j, none⟩ = some u ∧ u.oneCell' = true ∧ PV w (fun _ => False) c u := by
          intro i j row c hr hc
          obtain ⟨_, vs, k1, k2, k3⟩ := l2 i row hr
          obtain ⟨k4, k5⟩ := k3.2 j c hc
          have hj : j < P.cellsOf e := by have := (List.getElem?_eq_some_iff.1 hc).1; rw [k3.1, k2] at this; exact this
          have := (World.cells?_some k1).2.2 j hj
          rw [haddr, List.getElem?_eq_getElem (by omega)] at this
          refine ⟨_, this, ?_, ?_⟩
          · have e1 : vs.getD j und = vs[j] := by simp [List.getD, List.getElem?_eq_getElem (show j < vs.length by omega)]
            rw [← e1]; exact k5
          · have e1 : vs.getD j und = vs[j] := by simp [List.getD, List.getElem?_eq_getElem (show j < vs.length by omega)]
            rw [← e1]; exact k4
        have := PV.sl (w := w) (A := fun _ => False) (P.cellsOf e) els a.block a.off cap (fun i j => (w.cell? ⟨a.block, a.off + i * P.cellsOf e + j, none⟩).getD und) (by omega) hlt (fun h => h)
          (fun row hrow => by
            obtain ⟨i, hi⟩ := List.getElem?_of_mem hrow
            obtain ⟨_, vs, k1, k2, k3⟩ := l2 i row hi
            rw [k3.1, k2])
          (fun i j row c hr hc => by
            obtain ⟨u, k1, k2, k3⟩ := hcell i j row c hr hc
            rw [k1]; exact ⟨rfl, k2⟩)
          (fun i j row c hr hc => by
            obtain ⟨u, k1, k2, k3⟩ := hcell i j row c hr hc
            rw [k1]; exact k3)
        rw [l1] at this
        obtain ⟨b, off, sp⟩ := a
        simp only at hspot
        subst hspot
        exact this
      · obtain ⟨i, hi⟩ := List.getElem?_of_mem hrow
        exact (l2 i row hi).1
    case struct fs =>
      simp only [Bool.and_eq_true, List.all_eq_true] at hp
      unfold DataW.trod at hx
      rw [hu] at hx
      simp only at hx
      split at hx <;> try (simp_all; done)
      rename_i hl
      simp only [Option.map_eq_some_iff] at hx
      obtain ⟨ys, hys, rfl⟩ := hx
      unfold wOK DataW.weights at hwx
      rw [hu] at hwx
      simp only at hwx
      obtain ⟨vs, c, ty⟩ := struct_cells (f := f) (fun fl hfl cs h1 h2 => read_cells f fl.type cs hfl h1 h2) fs.toList 0 (P.cellsOf t) hp.1 hl (Nat.zero_le _) (fun fl hfl => ⟨hp.2 fl hfl, fuel, wOK_each hys hwx fl hfl⟩)
      rw [List.drop_zero] at c
      exact ⟨vs, c, by rw [c.1, hl], fun fl hfl => by simpa using (ty fl hfl).2⟩
    case array n e =>
      simp only [Bool.and_eq_true, decide_eq_true_eq] at hp
      unfold DataW.trod at hx
      rw [hu] at hx
      simp only at hx
      split at hx <;> try (simp_all; done)
      rename_i hl
      simp only [Option.map_eq_some_iff] at hx
      obtain ⟨ys, hys, rfl⟩ := hx
      unfold wOK DataW.weights at hwx
      rw [hu] at hwx
      simp only at hwx
      obtain ⟨vs, c, ty⟩ := array_cells (f := f) (e := e) (fun cs h1 h2 => read_cells f e cs hp.2 h1 h2) (n := n) (by rw [hl, hp.1]) (fun i hi => ⟨fuel, by
        obtain ⟨y, hy, ey⟩ := mapM_mem hys i (by simpa using hi)
        exact ⟨y, ey, wOK_all hwx _ (List.mem_map.2 ⟨y, hy, rfl⟩)⟩⟩) n (Nat.le_refl _)
      rw [List.take_of_length_le (by rw [hl, hp.1]; exact Nat.le_refl _)] at c
      exact ⟨vs, c, by rw [c.1, hl], ty⟩
end

omit [Gls] in
theorem rows_map {α : Type} {R : α → List V} : ∀ {els : List (List V)}, (∀ row ∈ els, ∃ a, row = R a) → ∃ l : List α, els = l.map R
  | [], _ => ⟨[], rfl⟩
  | r :: els, h => by
    obtain ⟨a, ha⟩ := h r (by simp)
    obtain ⟨l, hl⟩ := rows_map (els := els) (fun row hr => h row (by simp [hr]))
    exact ⟨a :: l, by simp [ha, hl]⟩

/-- An argument's shape, by its type. -/
def argTy (P : Program) (g : Nat) (t : TypeId) (x : V) : Prop := if isAg P t = true then ∃ vs, x = .agg vs ∧ tyV P g t vs else tyV P g t [x]

def argB (P : Program) (g : Nat) (t : TypeId) : Bool := plain P g t && (isAg P t || P.cellsOf t == 1) && P.readableRec t && decide (t < P.types.size)

section
variable {H : Type} {enc : TypeId × Value → H} {P : Program} {w : World} {spare : Nat → Bool} {held : Bool}

omit [Gls] in
theorem arg_read {g : Nat} {t : TypeId} {v : Value} {d : DataW H} {ps : List MemPlace} {r : Reach} {b0 : Nat} (hb : argB P g t = true) (hok : Value.okWide P w r b0 t v) (hd : DataW.Trod enc P w 0 spare held t v d ps) (hwx : wOK P t d) :
    ∃ x, PV w (fun _ => False) x v ∧ argTy P g t x := by
  simp only [argB, Bool.and_eq_true, Bool.or_eq_true, beq_iff_eq] at hb
  obtain ⟨⟨⟨hp, hc⟩, _⟩, _⟩ := hb
  obtain ⟨fuel, hx⟩ := hd
  by_cases ha : isAg P t = true
  · have : ∃ cs, v = .agg cs ∧ cs.size = P.cellsOf t := by
      unfold Value.okWide at hok
      unfold isAg at ha
      cases hu : P.underlying t with
      | none => simp [hu] at ha
      | some u =>
        rw [hu] at hok ha
        cases u <;> simp at ha hok
        · obtain ⟨cs, h1, h2, _⟩ := hok; exact ⟨cs, h1, h2⟩
        · obtain ⟨cs, h1, h2, _⟩ := hok; exact ⟨cs, h1, h2⟩
    obtain ⟨cs, rfl, hs⟩ := this
    obtain ⟨vs, c, ty⟩ := read_cells g t cs.toList hp ⟨fuel, _, hx, hwx⟩ (by simpa using hs)
    refine ⟨.agg vs, .agg vs cs (by simpa using c.1.symm) fun i x hi => ?_, ?_⟩
    · have := (c.2 i x hi).1
      simpa [Array.getD_eq_getD_getElem?, List.getD_eq_getElem?_getD] using this
    · unfold argTy; rw [if_pos ha]; exact ⟨vs, rfl, ty⟩
  · have hc1 : P.cellsOf t = 1 := by rcases hc with h | h; exact absurd h ha; exact h
    have hv : v.cells.toList = [v] := by
      have hna : ∀ cs, v ≠ .agg cs := by
        rintro cs rfl
        unfold Value.okWide at hok
        unfold isAg at ha
        cases hu : P.underlying t with
        | none => cases g <;> simp [plain, hu] at hp
        | some u =>
          rw [hu] at hok ha
          cases u <;> simp [Cell.okWide, Cell.ok, hu] at ha hok
      cases v <;> first | rfl | exact absurd rfl (hna _)
    rw [hv] at hx
    obtain ⟨vs, c, ty⟩ := read_cells g t [v] hp ⟨fuel, _, hx, hwx⟩ (by simp [hc1])
    have hl := c.1
    cases vs with
    | nil => simp at hl
    | cons x r =>
      have : r = [] := List.eq_nil_of_length_eq_zero (by simpa using hl)
      subst this
      refine ⟨x, by simpa using (c.2 0 x rfl).1, ?_⟩
      unfold argTy; rw [if_neg ha]; exact ty

omit [Gls] in
theorem args_read {g : Nat} {r : Reach} {b0 : Nat} : ∀ (ts : List TypeId) (vs : List Value) (ds : List (DataW H)) (ps : List MemPlace), DataW.TrodAll enc P w 0 spare held ts vs ds ps → (∀ n ∈ DataW.weightsEach P ts ds, n ≤ reachBytes) → (∀ (j : Nat) t v, ts[j]? = some t → vs[j]? = some v → Value.okWide P w r b0 t v) →
    (ts.all (argB P g)) = true → vs.length = ts.length ∧ ds.length = ts.length ∧ ∃ xs : List V, xs.length = ts.length ∧ (∀ (i : Nat) t x, ts[i]? = some t → xs[i]? = some x → argTy P g t x) ∧ ∀ (i : Nat) x, xs[i]? = some x → PV w (fun _ => False) x (vs.getD i und)
  | [], [], [], ps, _, _, _, _ => ⟨rfl, rfl, [], rfl, by simp, by simp⟩
  | t :: ts, v :: vs, d :: ds, ps, h, hwt, hok, hb => by
    obtain ⟨p, q, h1, h2, _⟩ := h
    simp only [DataW.weightsEach, List.mem_append] at hwt
    simp only [List.all_cons, Bool.and_eq_true] at hb
    obtain ⟨x, hx, hty⟩ := arg_read hb.1 (hok 0 t v rfl rfl) h1 (fun n hn => hwt n (.inl hn))
    obtain ⟨e1, e2, xs, e3, e4, e5⟩ := args_read ts vs ds q h2 (fun n hn => hwt n (.inr hn)) (fun j t v ht hv => hok (j + 1) t v (by simpa using ht) (by simpa using hv)) hb.2
    refine ⟨by simp [e1], by simp [e2], x :: xs, by simp [e3], ?_, ?_⟩
    · intro i t' x' ht hx'
      cases i with
      | zero => simp at ht hx'; subst ht hx'; exact hty
      | succ i => exact e4 i t' x' (by simpa using ht) (by simpa using hx')
    · intro i x' hx'
      cases i with
      | zero => simp at hx'; subst hx'; simpa using hx
      | succ i => simpa using e5 i x' (by simpa using hx')
  | [], _ :: _, _, _, h, _, _, _ => h.elim
  | [], [], _ :: _, _, h, _, _, _ => h.elim
  | _ :: _, [], _, _, h, _, _, _ => h.elim
  | _ :: _, _ :: _, [], _, h, _, _, _ => h.elim

omit [Gls] in
theorem args_below {g : Nat} {w' : World} (hl : laidOutB P = true) (hb : Below w.heap.size w w') : ∀ (ts : List TypeId) (vs : List Value) (ds : List (DataW H)) (ps : List MemPlace), DataW.TrodAll enc P w 0 (fun _ => true) true ts vs ds ps → (ts.all (argB P g)) = true → (∀ x ∈ ps, x.block < w.heap.size) →
    DataW.TrodAll enc P w' 0 (fun b => decide (b < w.heap.size)) true ts vs ds ps
  | [], [], [], ps, h, _, _ => h
  | t :: ts, v :: vs, d :: ds, ps, h, ha, hlt => by
    obtain ⟨p, q, h1, h2, rfl⟩ := h
    simp only [List.all_cons, Bool.and_eq_true] at ha
    have h3 := ha.1
    simp only [argB, Bool.and_eq_true, decide_eq_true_eq] at h3
    exact ⟨p, q, Below.trod hl h3.1.2 h3.2 h1 hb (fun x hx => hlt x (by simp [hx])), args_below hl hb ts vs ds q h2 ha.2 (fun x hx => hlt x (by simp [hx])), rfl⟩
  | [], _ :: _, _, _, h, _, _ => h.elim
  | [], [], _ :: _, _, h, _, _ => h.elim
  | _ :: _, [], _, _, h, _, _ => h.elim
  | _ :: _, _ :: _, [], _, h, _, _ => h.elim

end

/-- A law: whatever it is handed, it returns true, and all that was there is as it was. -/
theorem law_lifted {C : Checked} {os : Os} (started : os.Started) {H : Type} {enc : TypeId × Value → H} {f : FuncId} {fn : Func} {s : ChangeSpec} {S : PSpec} (g : Nat) (tb : TypeId)
    (hG0 : ∀ g, Gls.G g = none) (hown : ownKnob C.prog.godebug = none) (hl : laidOutB C.prog = true) (hin : C.prog.inits.idxOf? f = none) (hf : C.prog.funcs[f]? = some fn) (hOK : FnOK C.prog f (.pure S))
    (hvars : s.vars = []) (hspec : ∀ ds : List (DataW H), ds.length = fn.params.size → s.fn H ds = { results := [.lit (.bool true)], args := ds })
    (hrt : fn.resultTypes = #[tb]) (htb : C.prog.underlying tb = some .bool) (hpl : fn.params.toList.all (argB C.prog g) = true)
    (hopen : ∀ xs : List V, xs.length = fn.params.size → (∀ (i : Nat) t x, fn.params.toList[i]? = some t → xs[i]? = some x → argTy C.prog g t x) → ∃ d, S.pre d ∧ S.res d = .bool true ∧ S.enc d = xs)
    (witness : ∃ (w : World) (tape : Tape) (i : Input), w.os = os ∧ (w.forCall tape i).Shaped C.prog ∧ i.vars = [] ∧ Input.okWide C.prog (w.forCall tape i) .any w.heap.size f i ∧
      s.pre6 enc C.prog fn [] false (w.forCall tape i).memory i.args ∧ ({} : Assume).holds C.prog (lone (Frame.enter C.prog f i.args .normal) [] (w.forCall tape i))) :
    ReturnsInHanded {} C os f .any (s.pre6 enc C.prog fn [] false) (s.post enc C.prog fn false true false false) := by
  refine returnsInHanded_of_change_sized hown started hin hf witness ?_
  intro W base args ds gs before hval hW _ hwt _
  have hW' := hW
  obtain ⟨p, q, hA, hV, rfl, hfz, hnd⟩ := hW
  rw [hvars] at hV
  have hgs : gs = [] ∧ q = [] := by
    cases gs with
    | nil => exact ⟨rfl, hV⟩
    | cons a b => exact hV.elim
  obtain ⟨rfl, rfl⟩ := hgs
  rw [show s.plain.varTypes C.prog = [] by unfold ChangeSpec.plain DataSpec.varTypes; simp [hvars], List.append_nil, List.append_nil, List.all_eq_true] at hwt
  obtain ⟨e1, e2, xs, e3, e4, e5⟩ := args_read (g := g) _ _ _ _ hA (fun n hn => by simpa using hwt n hn) (fun j t v ht hv => hval j t v (by simpa using ht) (by simpa using hv)) hpl
  obtain ⟨d, hd1, hd2, hd3⟩ := hopen xs (by simpa using e3) e4
  refine ((hOK.pure S rfl) d hd1 W (fun _ => False) args (fun g v hg => by rw [hG0] at hg; cases hg) (fun _ h => h.elim) (by rw [hd3, e3]; simpa using e1) (fun i c hc => ?_)).mono fun e W' hres => ?_
  · rw [hd3] at hc
    have := e5 i c hc
    simpa [Array.getD_eq_getD_getElem?, List.getD_eq_getElem?_getD] using this
  obtain ⟨v, rfl, hb, hv⟩ := hres
  rw [hd2] at hv
  cases hv
  refine ⟨_, rfl, ds, [], p ++ [], [], p, [], hW', ?_, ?_, ?_, hb.frame _, fun h => by cases h⟩
  · rw [hrt]
    have h1 : s.fn H (ds ++ []) = { results := [.lit (.bool true)], args := ds } := by rw [List.append_nil]; exact hspec ds (by simpa using e2)
    rw [h1]
    exact ⟨[], [], shut_bool htb true, rfl, rfl⟩
  · have h1 : s.fn H (ds ++ []) = { results := [.lit (.bool true)], args := ds } := by rw [List.append_nil]; exact hspec ds (by simpa using e2)
    rw [h1]
    exact args_below hl hb _ _ _ _ hA hpl (fun x hx => hW'.lt x (by simpa using hx))
  · rw [hvars]
    have h1 : s.fn H (ds ++ []) = { results := [.lit (.bool true)], args := ds } := by rw [List.append_nil]; exact hspec ds (by simpa using e2)
    rw [h1]
    exact rfl
end Go.Sx
end
section
/- What arguments read as, for any seat. No conditions. -/
set_option linter.unusedSimpArgs false
set_option maxRecDepth 100000
namespace Go.Sx
open Go.RowKit
variable [Gls]

section
variable {P : Program} {g : Nat} {t : TypeId} {vs : List V}
theorem tyV_fld {k o : Nat} {ft : TypeId} (h : tyV P (g + 1) t vs) (hf : fld P t k = some (o, ft)) : tyV P g ft ((vs.drop o).take (P.cellsOf ft)) := by
  simp only [tyV] at h
  unfold fld at hf
  cases hu : P.underlying t with
  | none => simp [hu] at hf
  | some u =>
    rw [hu] at h hf
    cases u <;> simp only at h hf <;> try (cases hf; done)
    rename_i fs
    cases hk : fs[k]? with
    | none => simp [hk] at hf
    | some fl =>
      simp only [hk, Option.map_some, Option.some.injEq, Prod.mk.injEq] at hf
      obtain ⟨rfl, rfl⟩ := hf
      exact h.2 fl (Array.mem_toList_iff.2 (Array.mem_of_getElem? hk))
theorem tyV_len (h : tyV P (g + 1) t vs) (ha : isAg P t = true) : vs.length = P.cellsOf t := by
  simp only [tyV] at h
  unfold isAg at ha
  cases hu : P.underlying t with
  | none => simp [hu] at ha
  | some u =>
    rw [hu] at h ha
    cases u <;> simp only at h ha <;> first | (cases ha; done) | exact h.1
theorem tyV_int {k : IntKind} (h : tyV P (g + 1) t vs) (hk : intK P t = some k) : ∃ n, vs = [.int k n] ∧ (Lit.int k n).wf = true := by
  simp only [tyV] at h
  unfold intK at hk
  cases hu : P.underlying t with
  | none => simp [hu] at hk
  | some u =>
    rw [hu] at h hk
    cases u <;> simp only at h hk <;> try (cases hk; done)
    cases hk
    exact h
theorem tyV_sl {e : TypeId} (h : tyV P (g + 1) t vs) (hk : slEl P t = some e) : ∃ els, vs = [.sl (P.cellsOf e) els] ∧ els.length ≤ 9223372036854775807 ∧ ∀ row ∈ els, tyV P g e row := by
  simp only [tyV] at h
  unfold slEl at hk
  cases hu : P.underlying t with
  | none => simp [hu] at hk
  | some u =>
    rw [hu] at h hk
    cases u <;> simp only at h hk <;> try (cases hk; done)
    cases hk
    obtain ⟨els, h1, h2, _, h3⟩ := h
    exact ⟨els, h1, by simpa [maxLen] using h2, h3⟩
/-- The same, with the bound of memory. -/
theorem tyV_slw {e : TypeId} (h : tyV P (g + 1) t vs) (hk : slEl P t = some e) : ∃ els, vs = [.sl (P.cellsOf e) els] ∧ els.length * P.bytesOf e ≤ 140737488351232 ∧ ∀ row ∈ els, tyV P g e row := by
  simp only [tyV] at h
  unfold slEl at hk
  cases hu : P.underlying t with
  | none => simp [hu] at hk
  | some u =>
    rw [hu] at h hk
    cases u <;> simp only at h hk <;> try (cases hk; done)
    cases hk
    obtain ⟨els, h1, _, h2, h3⟩ := h
    exact ⟨els, h1, by simpa [reachBytes] using h2, h3⟩
theorem tyV_arr {n : Nat} {e : TypeId} (h : tyV P (g + 1) t vs) (hk : arEl P t = some (n, e)) : ∀ i, i < n → tyV P g e ((vs.drop (i * P.cellsOf e)).take (P.cellsOf e)) := by
  simp only [tyV] at h
  unfold arEl at hk
  cases hu : P.underlying t with
  | none => simp [hu] at hk
  | some u =>
    rw [hu] at h hk
    cases u <;> simp only at h hk <;> try (cases hk; done)
    cases hk
    exact h.2
theorem argTy_one {x : V} (h : argTy P g t x) (ha : isAg P t = false) : tyV P g t [x] := by
  unfold argTy at h; rw [if_neg (by rw [ha]; decide)] at h; exact h
theorem argTy_agg {x : V} (h : argTy P g t x) (ha : isAg P t = true) : ∃ vs, x = .agg vs ∧ tyV P g t vs := by
  unfold argTy at h; rw [if_pos ha] at h; exact h
end

end Go.Sx
end
