/- A part of a proof; no conditions. -/
import Derived.Test.YtjpmoggimhmidaaGreatP40
set_option linter.unusedSimpArgs false
set_option linter.unusedVariables false
set_option linter.unusedSectionVars false
section
/- Crew: what is loaded; the reference's cabins, seatings, centers. No conditions. -/
set_option linter.unusedSimpArgs false
set_option linter.unusedSectionVars false
set_option maxRecDepth 100000
set_option maxHeartbeats 2000000
namespace Go.Sx
open Go.Proofs
attribute [local irreducible] HLe

/-! the reference's checks -/
noncomputable abbrev E25 : Env := { P := Tryz.prog, fn := tbl [], own := [], key := 2500, nt := 15 }
theorem b25 : PureBody E25 [] Tryz.f25 withinS := by
  refine pb ?_
  rintro ⟨n, a, b⟩ _
  simp -dsimp [Tryz.f25, E25, withinB]
  repeat' (first | omega | (simp -dsimp [E25, ri, cellp, ints, *]) | (refine Also.intro ?_ fun _ => ?_) | (refine Hold.intro fun _ => ?_) | (refine And.intro ?_ ?_))
theorem ok25 : FnOK Tryz.prog 25 (.pure withinS) := pure_fn (E := E25) rfl LOK.nil (ok := []) (fn := Tryz.f25) (by kernel_rfl) (by kernel_rfl) (by kernel_rfl) (by kernel_rfl) rfl (fun _ _ => by simp) b25
noncomputable abbrev E13 : Env := { P := Tryz.prog, fn := tbl [(25, .pure withinS)], own := [], key := 1300, nt := 13 }
theorem b13 : PureBody E13 [] Tryz.f13 spvS := by
  refine pb ?_
  rintro f _
  have hN : (!spN f) = (withinB f.lo (-1000000) 1000000 && withinB f.hi f.lo 1000000) := by
    rw [spN, Bool.not_not, withinB, withinB, withinB, ← Bool.decide_and, ← Bool.decide_and]
    congr 1
    apply propext
    omega
  generalize h1 : withinB f.lo (-1000000) 1000000 = b1 at hN
  generalize h2 : withinB f.hi f.lo 1000000 = b2 at hN
  generalize spN f = b at hN
  cases b1 <;> cases b2 <;> cases b
  all_goals first | (exact absurd hN (by decide)) | skip
  all_goals
    clear hN
    simp -dsimp [Tryz.f13, E13, Sp.row]
    repeat' (first | omega | (simp -dsimp [E13, ri, cellp, ints, Sp.row, h1, h2]) | (refine Also.intro ?_ fun _ => ?_) | (refine Hold.intro fun _ => ?_) | (refine And.intro ?_ ?_))
theorem ok13 : FnOK Tryz.prog 13 (.pure spvS) := pure_fn (E := E13) rfl (.cons ok25 .nil) (ok := []) (fn := Tryz.f13) (by kernel_rfl) (by kernel_rfl) (by kernel_rfl) (by kernel_rfl) rfl (fun _ _ => by simp) b13
abbrev armBS : PSpec := int1S armB
theorem armB_w (n : Int) : armB n = withinB n (-1000) 1000 := rfl
noncomputable abbrev E90 : Env := { P := Tryz.prog, fn := tbl [(89, .pure withinS)], own := [], key := 9000, nt := 5 }
theorem b90 : PureBody E90 [] Tryz.f90 armBS := by
  refine pb ?_
  rintro n _
  simp -dsimp [Tryz.f90, E90, armB_w]
  repeat' (first | omega | (simp -dsimp [E90, ri, cellp, ints, armB_w]) | (refine Also.intro ?_ fun _ => ?_) | (refine Hold.intro fun _ => ?_) | (refine And.intro ?_ ?_))
theorem ok90 : FnOK Tryz.prog 90 (.pure armBS) := pure_fn (E := E90) rfl (.cons ok89 .nil) (ok := []) (fn := Tryz.f90) (by kernel_rfl) (by kernel_rfl) (by kernel_rfl) (by kernel_rfl) rfl (fun _ _ => by simp) b90
theorem ca_ok2 (c : Ca) : c.ok = (withinB c.emp 1 100000 && decide (c.st.length ≤ 8) && decide (c.low ≤ c.high) && armB c.arm && armB c.farm && armB c.low && armB c.high && c.st.all fun s => armB s.arm) := rfl
noncomputable abbrev E61 : Env := { P := Tryz.prog, fn := tbl [(89, .pure withinS), (90, .pure armBS)], own := [], key := 6100, nt := 60 }
theorem b61 : PureBody E61 [] Tryz.f61 cabS := by
  refine pb ?_
  rintro c hl
  have hl : c.st.length ≤ 900000 := hl
  have hr := ca_ok2 c
  generalize h1 : withinB c.emp 1 100000 = b1 at hr
  generalize h2 : armB c.arm = b2 at hr
  generalize h3 : armB c.farm = b3 at hr
  generalize h4 : armB c.low = b4 at hr
  generalize h5 : armB c.high = b5 at hr
  by_cases hall : ((((((b1 = true ∧ c.st.length ≤ 8) ∧ b2 = true) ∧ b3 = true) ∧ b4 = true) ∧ b5 = true) ∧ c.low ≤ c.high)
  case neg =>
    have hz : c.ok = false := by
      rw [Bool.eq_false_iff]
      intro h
      rw [hr] at h
      simp only [Bool.and_eq_true, decide_eq_true_eq] at h
      obtain ⟨⟨⟨⟨⟨⟨⟨x1, x2⟩, x3⟩, x4⟩, x5⟩, x6⟩, x7⟩, _⟩ := h
      exact hall ⟨⟨⟨⟨⟨⟨x1, x2⟩, x4⟩, x5⟩, x6⟩, x7⟩, x3⟩
    simp -dsimp [Tryz.f61, E61, Ca.row]
    repeat' (first | omega | (simp -dsimp [E61, ri, cellp, ints, Ca.row, h1, h2, h3, h4, h5, hz]) | (refine Also.intro ?_ fun _ => ?_) | (refine Hold.intro fun _ => ?_) | (refine And.intro ?_ ?_))
    rename_i h
    exact absurd (show ((((((b1 = true ∧ c.st.length ≤ 8) ∧ b2 = true) ∧ b3 = true) ∧ b4 = true) ∧ b5 = true) ∧ c.low ≤ c.high) by
      obtain ⟨⟨⟨⟨⟨⟨x1, x2⟩, x4⟩, x5⟩, x6⟩, x7⟩, x3⟩ := h
      exact ⟨⟨⟨⟨⟨⟨x1, by omega⟩, x4⟩, x5⟩, x6⟩, x7⟩, x3⟩) hall
  obtain ⟨⟨⟨⟨⟨⟨rfl, x2⟩, rfl⟩, rfl⟩, rfl⟩, rfl⟩, x3⟩ := hall
  have x2' : ((8 : Int) < c.st.length) = False := eq_false (by omega)
  have x3' : (c.high < c.low) = False := eq_false (by omega)
  rw [decide_eq_true x2, decide_eq_true x3] at hr
  simp only [Bool.true_and, Bool.and_true] at hr
  simp -dsimp [Tryz.f61, E61, Ca.row]
  repeat' (first | omega | (simp -dsimp [E61, ri, cellp, ints, Ca.row, h1, h2, h3, h4, h5, x2', x3']) | (refine Also.intro ?_ fun _ => ?_) | (refine Hold.intro fun _ => ?_) | (refine And.intro ?_ ?_))
  refine awp_loop [45, 46, 47, 48, 49, 52, 53, 54, 55, 56, 57, 58, 59, 2, 50, 51, 3] (fun k : { k : Nat // k ≤ c.st.length ∧ ∀ j (h : j < c.st.length), j < k → armB c.st[j].arm = true } => [(3, (true, .int .i64 k.1))]) (fun k => hps [(6101, { base := 0, blks := [{ z := 6, els := [c.row], ty := 36 }] })] noH) (fun k => c.st.length - k.1) ⟨0, by omega, fun _ _ h => by omega⟩ ?_ ?_ ?_
  · simp [okAll, okv]
  · exact (by (try simp -dsimp only [hpush_noH, hpush_hps, hps_over]); refine hle_hps ?_; simp -dsimp [allK, Ca.row]; repeat' (first | (refine And.intro ?_ ?_) | (refine sLe.same ?_ ?_ <;> (simp; done)) | (refine sLe.clear ?_ ?_ <;> (first | (simp; done) | (simp; omega))) | (refine sLe.drop 1 ?_ ?_ ?_ <;> (simp; done))))
  rintro ⟨k, hk, hal⟩
  dsimp only
  by_cases hk1 : k < c.st.length
  · have hki : (k : Int) < c.st.length := by omega
    have wk : IntKind.wrap .i64 ((k : Int) + 1) = (k + 1 : Nat) := wrap_id (by omega) (by omega)
    obtain ⟨s, hs⟩ : ∃ s, c.st[k]? = some s := ⟨_, List.getElem?_eq_getElem hk1⟩
    have hs' : c.st[k] = s := (List.getElem?_eq_some_iff.1 hs).2
    cases g1 : armB s.arm
    · have hz : c.ok = false := by
        rw [hr, List.all_eq_false]; exact ⟨s, by rw [← hs']; exact List.getElem_mem hk1, by simp [g1]⟩
      simp -dsimp [hki]
      repeat' (first | omega | (simp -dsimp [E61, ri, cellp, ints, Ca.row, Se.row, hki, hk1, hs, hs', g1, hz]) | (refine Also.intro ?_ fun _ => ?_) | (refine Hold.intro fun _ => ?_) | (refine And.intro ?_ ?_))
    · simp -dsimp [hki]
      repeat' (first | omega | (simp -dsimp [E61, ri, cellp, ints, Ca.row, Se.row, hki, hk1, hs, hs', g1, wk]) | (refine Also.intro ?_ fun _ => ?_) | (refine Hold.intro fun _ => ?_) | (refine And.intro ?_ ?_))
      refine ⟨k + 1, tle_chain rfl ?_, HLe.refl _, ⟨by omega, fun j h hj => ?_⟩, by omega⟩
      · simp [okAll, okv]
      · by_cases hjk : j = k
        · subst hjk; rw [hs', g1]
        · exact hal j h (by omega)
  · have hkn : ¬ (k : Int) < c.st.length := by omega
    have hz : c.ok = true := by
      rw [hr, List.all_eq_true]
      intro p hp
      obtain ⟨j, hj, rfl⟩ := List.getElem_of_mem hp
      exact hal j hj (by omega)
    simp -dsimp [hkn]
    repeat' (first | omega | (simp -dsimp [E61, ri, cellp, ints, Ca.row, hkn, hz]) | (refine Also.intro ?_ fun _ => ?_) | (refine Hold.intro fun _ => ?_) | (refine And.intro ?_ ?_))
theorem ok61 : FnOK Tryz.prog 61 (.pure cabS) := pure_fn (E := E61) rfl (.cons ok89 (.cons ok90 .nil)) (ok := []) (fn := Tryz.f61) (by kernel_rfl) (by kernel_rfl) (by kernel_rfl) (by kernel_rfl) rfl (fun _ _ => by simp) b61
noncomputable abbrev E36 : Env := { P := Tryz.prog, fn := tbl [(61, .pure cabS), (62, .pure grS), (13, .pure spvS)], own := [], key := 3600, nt := 34 }
theorem b36 : PureBody E36 [] Tryz.f36 lodS := by
  refine pb ?_
  rintro ⟨c, l, f⟩ ⟨hc, hl⟩
  simp only at hc hl
  have hK : lodE c l f = if c.ok = true then (if gueE l c.st.length = 0 then spnE f else gueE l c.st.length) else 102 := rfl
  have hS := spn_of f
  by_cases h1 : c.ok = true
  · rw [if_pos h1] at hK
    by_cases h2 : gueE l c.st.length = 0
    · rw [if_pos h2] at hK
      rw [hS] at hK
      generalize h3 : spN f = b at hK
      cases b
      · simp -dsimp [Tryz.f36, E36, Sp.row, Ca.row]
        repeat' (first | omega | (simp -dsimp [E36, ri, cellp, ints, Sp.row, Ca.row, caE_dec, grE_dec, spE_dec, hc, hl, h1, h2, h3]) | (refine Also.intro ?_ fun _ => ?_) | (refine Hold.intro fun _ => ?_) | (refine And.intro ?_ ?_))
        all_goals
          rename_i h
          rw [hK]
          first
            | rw [if_neg (by rintro (h' | h' | h') <;> first | (cases h'; done) | omega)]
            | rw [if_pos (by first | exact .inr (.inl h) | exact .inr (.inr h) | exact .inr h)]
      · simp -dsimp [Tryz.f36, E36, Sp.row, Ca.row]
        repeat' (first | omega | (simp -dsimp [E36, ri, cellp, ints, Sp.row, Ca.row, caE_dec, grE_dec, spE_dec, hc, hl, h1, h2, h3, hK]) | (refine Also.intro ?_ fun _ => ?_) | (refine Hold.intro fun _ => ?_) | (refine And.intro ?_ ?_))
    · rw [if_neg h2] at hK
      simp -dsimp [Tryz.f36, E36, Sp.row, Ca.row]
      repeat' (first | omega | (simp -dsimp [E36, ri, cellp, ints, Sp.row, Ca.row, caE_dec, grE_dec, hc, hl, h1, h2, hK]) | (refine Also.intro ?_ fun _ => ?_) | (refine Hold.intro fun _ => ?_) | (refine And.intro ?_ ?_))
  · rw [if_neg h1] at hK
    simp -dsimp [Tryz.f36, E36, Sp.row, Ca.row]
    repeat' (first | omega | (simp -dsimp [E36, ri, cellp, ints, Sp.row, Ca.row, caE_dec, hc, hl, h1, hK]) | (refine Also.intro ?_ fun _ => ?_) | (refine Hold.intro fun _ => ?_) | (refine And.intro ?_ ?_))
theorem ok36 : FnOK Tryz.prog 36 (.pure lodS) := pure_fn (E := E36) rfl (.cons ok61 (.cons ok62 (.cons ok13 .nil))) (ok := []) (fn := Tryz.f36) (by kernel_rfl) (by kernel_rfl) (by kernel_rfl) (by kernel_rfl) rfl (fun _ _ => by simp) b36
end Go.Sx
end
section
/- Crew: what is loaded; the reference's. No conditions. -/
set_option linter.unusedSimpArgs false
set_option linter.unusedSectionVars false
set_option maxRecDepth 100000
set_option maxHeartbeats 2000000
namespace Go.Sx
open Go.Proofs
attribute [local irreducible] HLe

/-! what is loaded -/
def lddO (c : Ca) (l : List Gu) (f : Sp) : Sp := if lodE c l f = 0 then ⟨c.emp + wTo l l.length + f.lo, c.emp + wTo l l.length + f.hi⟩ else ⟨0, 0⟩
noncomputable abbrev lddS : PSpec := mkP lodE3 LoP fun d => .tup [.agg (lddO d.1 d.2.1 d.2.2).row, .int .i64 (lodE d.1 d.2.1 d.2.2)]
noncomputable abbrev E12 : Env := { P := Tryz.prog, fn := tbl [(24, .pure lodS)], own := [], key := 1200, nt := 42 }
theorem b12 : PureBody E12 [] Tryz.f12 lddS := by
  refine pb ?_
  rintro ⟨c, l, f⟩ hP
  have hP : LoP (c, l, f) := hP
  have hK : lddO c l f = if lodE c l f = 0 then ⟨c.emp + wTo l l.length + f.lo, c.emp + wTo l l.length + f.hi⟩ else ⟨0, 0⟩ := rfl
  by_cases he : lodE c l f = 0
  case neg =>
    have he' : (lodE c l f = 0) = False := eq_false he
    rw [if_neg he] at hK
    simp -dsimp [Tryz.f12, E12, Ca.row, Sp.row]
    repeat' (first | omega | (simp -dsimp [E12, ri, cellp, ints, Ca.row, Sp.row, lodE3_dec, hP, he', hK]) | (refine Also.intro ?_ fun _ => ?_) | (refine Hold.intro fun _ => ?_) | (refine And.intro ?_ ?_))
  rw [if_pos he] at hK
  have hL := lodE_zero he
  have hemp := hL.cf.emp
  have hff := hL.ff
  have hn8 : l.length ≤ 8 := by have := hL.n; have := hL.cf.n; omega
  simp -dsimp [Tryz.f12, E12, Ca.row, Sp.row]
  repeat' (first | omega | (simp -dsimp [E12, ri, cellp, ints, Ca.row, Sp.row, lodE3_dec, hP, he]) | (refine Also.intro ?_ fun _ => ?_) | (refine Hold.intro fun _ => ?_) | (refine And.intro ?_ ?_))
  refine awp_loop [25, 26, 27, 11, 28, 29, 30, 31, 9, 32, 24] (fun k : { k : Nat // k ≤ l.length } => [(24, (true, .int .i64 k.1)), (9, (true, .int .i64 (c.emp + wTo l k.1)))]) (fun k => hps [(1211, { base := k.1, blks := [] }), (1203, { base := 0, blks := [{ z := 6, els := [c.row], ty := 36 }] }), (1205, { base := 0, blks := [{ z := 2, els := [f.row], ty := 29 }] }), (1206, { base := 0, blks := [{ z := 2, els := [[.int .i64 0, .int .i64 0]], ty := 29 }] })] noH) (fun k => l.length - k.1) ⟨0, by omega⟩ ?_ ?_ ?_
  · simp [okAll, okv, wTo]
  · exact (by (try simp -dsimp only [hpush_noH, hpush_hps, hps_over]); refine hle_hps ?_; simp -dsimp [allK, Ca.row, Sp.row]; repeat' (first | (refine And.intro ?_ ?_) | (refine sLe.same ?_ ?_ <;> (simp; done)) | (refine sLe.clear ?_ ?_ <;> (first | (simp; done) | (simp; omega))) | (refine sLe.drop 1 ?_ ?_ ?_ <;> (simp; done))))
  rintro ⟨k, hk⟩
  dsimp only
  have wb := wTo_bd hL.gf k hk
  by_cases hk1 : k < l.length
  · have hki : (k : Int) < l.length := by omega
    have wk : IntKind.wrap .i64 ((k : Int) + 1) = (k + 1 : Nat) := wrap_id (by omega) (by omega)
    obtain ⟨u, hu⟩ : ∃ u, l[k]? = some u := ⟨_, List.getElem?_eq_getElem hk1⟩
    have hu' : l[k] = u := (List.getElem?_eq_some_iff.1 hu).2
    have hug : guAt l k = u := by simp [guAt, List.getD, hu]
    have hub := guAt_bd hL.gf hk1
    rw [hug] at hub
    have hwt : wTo l (k + 1) = wTo l k + u.w := by rw [wTo, hug]
    have v3 : IntKind.wrap .i64 (c.emp + wTo l k + u.w) = c.emp + wTo l (k + 1) := by rw [wrap_id (by omega) (by omega), hwt]; omega
    simp -dsimp [hki]
    repeat' (first | omega | (simp -dsimp [E12, ri, cellp, ints, hki, hk1, hu, hu', wk, v3, Ca.row, Gu.row, Sp.row]) | (refine Also.intro ?_ fun _ => ?_) | (refine Hold.intro fun _ => ?_) | (refine And.intro ?_ ?_))
    refine ⟨k + 1, tle_chain rfl ?_, ?_, by omega, by omega⟩
    · simp [okAll, okv]
    · exact (by (try simp -dsimp only [hpush_noH, hpush_hps, hps_over]); refine hle_hps ?_; simp -dsimp [allK, Ca.row, Sp.row]; repeat' (first | (refine And.intro ?_ ?_) | (refine sLe.same ?_ ?_ <;> (simp; done)) | (refine sLe.clear ?_ ?_ <;> (first | (simp; done) | (simp; omega))) | (refine sLe.drop 1 ?_ ?_ ?_ <;> (simp; done))))
  · have hkn : ¬ (k : Int) < l.length := by omega
    have hke : k = l.length := by omega
    subst hke
    have e1 : IntKind.wrap .i64 (c.emp + wTo l l.length + f.lo) = c.emp + wTo l l.length + f.lo := wrap_id (by omega) (by omega)
    have e2 : IntKind.wrap .i64 (c.emp + wTo l l.length + f.hi) = c.emp + wTo l l.length + f.hi := wrap_id (by omega) (by omega)
    simp -dsimp [hkn]
    repeat' (first | omega | (simp -dsimp [E12, ri, cellp, ints, hkn, e1, e2, Ca.row, Sp.row, he, hK]) | (refine Also.intro ?_ fun _ => ?_) | (refine Hold.intro fun _ => ?_) | (refine And.intro ?_ ?_))
theorem ok12 : FnOK Tryz.prog 12 (.pure lddS) := pure_fn (E := E12) rfl (.cons ok24 .nil) (ok := []) (fn := Tryz.f12) (by kernel_rfl) (by kernel_rfl) (by kernel_rfl) (by kernel_rfl) rfl (fun _ _ => by simp) b12
noncomputable abbrev E22 : Env := { P := Tryz.prog, fn := tbl [(36, .pure lodS)], own := [], key := 2200, nt := 43 }
theorem b22 : PureBody E22 [] Tryz.f22 lddS := by
  refine pb ?_
  rintro ⟨c, l, f⟩ hP
  have hP : LoP (c, l, f) := hP
  have hK : lddO c l f = if lodE c l f = 0 then ⟨c.emp + wTo l l.length + f.lo, c.emp + wTo l l.length + f.hi⟩ else ⟨0, 0⟩ := rfl
  by_cases he : lodE c l f = 0
  case neg =>
    have he' : (lodE c l f = 0) = False := eq_false he
    rw [if_neg he] at hK
    simp -dsimp [Tryz.f22, E22, Ca.row, Sp.row]
    repeat' (first | omega | (simp -dsimp [E22, ri, cellp, ints, Ca.row, Sp.row, lodE3_dec, hP, he', hK]) | (refine Also.intro ?_ fun _ => ?_) | (refine Hold.intro fun _ => ?_) | (refine And.intro ?_ ?_))
  rw [if_pos he] at hK
  have hL := lodE_zero he
  have hemp := hL.cf.emp
  have hff := hL.ff
  have hn8 : l.length ≤ 8 := by have := hL.n; have := hL.cf.n; omega
  simp -dsimp [Tryz.f22, E22, Ca.row, Sp.row]
  repeat' (first | omega | (simp -dsimp [E22, ri, cellp, ints, Ca.row, Sp.row, lodE3_dec, hP, he]) | (refine Also.intro ?_ fun _ => ?_) | (refine Hold.intro fun _ => ?_) | (refine And.intro ?_ ?_))
  refine awp_loop [21, 22, 23, 24, 27, 28, 29, 30, 31, 32, 33, 9, 25, 26, 10] (fun k : { k : Nat // k ≤ l.length } => [(10, (true, .int .i64 k.1)), (9, (true, .int .i64 (c.emp + wTo l k.1)))]) (fun k => hps [(2203, { base := 0, blks := [{ z := 6, els := [c.row], ty := 36 }] }), (2205, { base := 0, blks := [{ z := 2, els := [f.row], ty := 29 }] }), (2206, { base := 0, blks := [{ z := 2, els := [[.int .i64 0, .int .i64 0]], ty := 29 }] })] noH) (fun k => l.length - k.1) ⟨0, by omega⟩ ?_ ?_ ?_
  · simp [okAll, okv, wTo]
  · exact (by (try simp -dsimp only [hpush_noH, hpush_hps, hps_over]); refine hle_hps ?_; simp -dsimp [allK, Ca.row, Sp.row]; repeat' (first | (refine And.intro ?_ ?_) | (refine sLe.same ?_ ?_ <;> (simp; done)) | (refine sLe.clear ?_ ?_ <;> (first | (simp; done) | (simp; omega))) | (refine sLe.drop 1 ?_ ?_ ?_ <;> (simp; done))))
  rintro ⟨k, hk⟩
  dsimp only
  have wb := wTo_bd hL.gf k hk
  by_cases hk1 : k < l.length
  · have hki : (k : Int) < l.length := by omega
    have wk : IntKind.wrap .i64 ((k : Int) + 1) = (k + 1 : Nat) := wrap_id (by omega) (by omega)
    obtain ⟨u, hu⟩ : ∃ u, l[k]? = some u := ⟨_, List.getElem?_eq_getElem hk1⟩
    have hu' : l[k] = u := (List.getElem?_eq_some_iff.1 hu).2
    have hug : guAt l k = u := by simp [guAt, List.getD, hu]
    have hub := guAt_bd hL.gf hk1
    rw [hug] at hub
    have hwt : wTo l (k + 1) = wTo l k + u.w := by rw [wTo, hug]
    have v3 : IntKind.wrap .i64 (c.emp + wTo l k + u.w) = c.emp + wTo l (k + 1) := by rw [wrap_id (by omega) (by omega), hwt]; omega
    simp -dsimp [hki]
    repeat' (first | omega | (simp -dsimp [E22, ri, cellp, ints, hki, hk1, hu, hu', wk, v3, Ca.row, Gu.row, Sp.row]) | (refine Also.intro ?_ fun _ => ?_) | (refine Hold.intro fun _ => ?_) | (refine And.intro ?_ ?_))
    refine ⟨k + 1, tle_chain rfl ?_, ?_, by omega, by omega⟩
    · simp [okAll, okv]
    · exact (by (try simp -dsimp only [hpush_noH, hpush_hps, hps_over]); refine hle_hps ?_; simp -dsimp [allK, Ca.row, Sp.row]; repeat' (first | (refine And.intro ?_ ?_) | (refine sLe.same ?_ ?_ <;> (simp; done)) | (refine sLe.clear ?_ ?_ <;> (first | (simp; done) | (simp; omega))) | (refine sLe.drop 1 ?_ ?_ ?_ <;> (simp; done))))
  · have hkn : ¬ (k : Int) < l.length := by omega
    have hke : k = l.length := by omega
    subst hke
    have e1 : IntKind.wrap .i64 (c.emp + wTo l l.length + f.lo) = c.emp + wTo l l.length + f.lo := wrap_id (by omega) (by omega)
    have e2 : IntKind.wrap .i64 (c.emp + wTo l l.length + f.hi) = c.emp + wTo l l.length + f.hi := wrap_id (by omega) (by omega)
    simp -dsimp [hkn]
    repeat' (first | omega | (simp -dsimp [E22, ri, cellp, ints, hkn, e1, e2, Ca.row, Sp.row, he, hK]) | (refine Also.intro ?_ fun _ => ?_) | (refine Hold.intro fun _ => ?_) | (refine And.intro ?_ ?_))
theorem ok22 : FnOK Tryz.prog 22 (.pure lddS) := pure_fn (E := E22) rfl (.cons ok36 .nil) (ok := []) (fn := Tryz.f22) (by kernel_rfl) (by kernel_rfl) (by kernel_rfl) (by kernel_rfl) rfl (fun _ _ => by simp) b22
end Go.Sx
end
