/- Crew: the law of the easier rules. No conditions. -/
import Derived.Test.YtnpdjaikmdagmaaP20
set_option linter.unusedSimpArgs false
set_option linter.unusedVariables false
set_option linter.unusedSectionVars false
set_option linter.unusedSimpArgs false
set_option linter.unusedSectionVars false
set_option maxRecDepth 100000
set_option maxHeartbeats 2000000
namespace Go.Sx
open Go.Proofs
attribute [local irreducible] HLe

theorem ro_ok2 (r : Ro) : r.ok = (decide (r.ppl.length ≤ 12) && r.ppl.all Pn.ok && withinB r.lng 1 2000 && withinB r.rst 0 2000 && withinB r.win 1 2000 && withinB r.rcn 1 2000 && withinB r.tot 1 r.win) := rfl
noncomputable abbrev E15 : Env := { P := Try.prog, fn := tbl [(40, .pure withinS)], own := [], key := 1500, nt := 69 }
theorem b15 : PureBody E15 [] Try.f15 rosS := by
  refine pb ?_
  rintro r hl
  have hl : r.ppl.length ≤ 1000000 := hl
  have hr := ro_ok2 r
  generalize h2 : withinB r.lng 1 2000 = b2 at hr
  generalize h3 : withinB r.rst 0 2000 = b3 at hr
  generalize h4 : withinB r.win 1 2000 = b4 at hr
  generalize h5 : withinB r.rcn 1 2000 = b5 at hr
  generalize h6 : withinB r.tot 1 r.win = b6 at hr
  have e0 : decide ((12 : Int) < r.ppl.length) = !decide (r.ppl.length ≤ 12) := by
    by_cases h : r.ppl.length ≤ 12
    · rw [decide_eq_true h, decide_eq_false (by omega)]; rfl
    · rw [decide_eq_false h, decide_eq_true (by omega)]; rfl
  by_cases hall : decide (r.ppl.length ≤ 12) && b2 && b3 && b4 && b5 && b6
  case neg =>
    have hz : r.ok = false := by
      rw [hr]; cases h : decide (r.ppl.length ≤ 12) <;> rw [h] at hall <;> cases b2 <;> cases b3 <;> cases b4 <;> cases b5 <;> cases b6 <;> simp_all
    have hz2 : ¬ (((((r.ppl.length ≤ 12 ∧ b2 = true) ∧ b3 = true) ∧ b4 = true) ∧ b5 = true) ∧ b6 = true) := by
      simpa using hall
    clear hall
    simp -dsimp [Try.f15, E15, Ro.row, pplV]
    repeat' (first | omega | (simp -dsimp [E15, ri, cellp, ints, Ro.row, pplV, h2, h3, h4, h5, h6, hz]) | (refine Also.intro ?_ fun _ => ?_) | (refine Hold.intro fun _ => ?_) | (refine And.intro ?_ ?_))
    rename_i h
    exact (hz2 ⟨⟨⟨⟨⟨by omega, h.1.1.1.1.2⟩, h.1.1.1.2⟩, h.1.1.2⟩, h.1.2⟩, h.2⟩).elim
  simp only [Bool.and_eq_true, decide_eq_true_eq] at hall
  obtain ⟨⟨⟨⟨⟨h1, rfl⟩, rfl⟩, rfl⟩, rfl⟩, rfl⟩ := hall
  have h1' : ((12 : Int) < r.ppl.length) = False := eq_false (by omega)
  rw [decide_eq_true h1] at hr
  simp only [Bool.true_and, Bool.and_true] at hr
  clear e0
  simp -dsimp [Try.f15, E15, Ro.row, pplV]
  repeat' (first | omega | (simp -dsimp [E15, ri, cellp, ints, Ro.row, pplV, h2, h3, h4, h5, h6, h1']) | (refine Also.intro ?_ fun _ => ?_) | (refine Hold.intro fun _ => ?_) | (refine And.intro ?_ ?_))
  refine awp_loop [41, 42, 43, 44, 45, 48, 49, 50, 51, 52, 4, 53, 54, 55, 56, 57, 58, 59, 60, 61, 62, 63, 64, 65, 66, 67, 68, 2, 46, 47, 3] (fun k : { k : Nat // k ≤ r.ppl.length ∧ ∀ j (h : j < r.ppl.length), j < k → r.ppl[j].ok = true } => [(3, (true, .int .i64 k.1))]) (fun k => hps [(1504, { base := k.1, blks := [] }), (1501, { base := 0, blks := [{ z := 6, els := [r.row], ty := 33 }] })] noH) (fun k => r.ppl.length - k.1) ⟨0, by omega, fun _ _ h => by omega⟩ ?_ ?_ ?_
  · simp [okAll, okv]
  · exact (by (try simp -dsimp only [hpush_noH, hpush_hps, hps_over]); refine hle_hps ?_; simp -dsimp [allK, Ro.row, pplV]; repeat' (first | (refine And.intro ?_ ?_) | (refine sLe.same ?_ ?_ <;> (simp; done)) | (refine sLe.clear ?_ ?_ <;> (first | (simp; done) | (simp; omega))) | (refine sLe.drop 1 ?_ ?_ ?_ <;> (simp; done))))
  rintro ⟨k, hk, hal⟩
  dsimp only
  by_cases hk1 : k < r.ppl.length
  · have hki : (k : Int) < r.ppl.length := by omega
    have wk : IntKind.wrap .i64 ((k : Int) + 1) = (k + 1 : Nat) := wrap_id (by omega) (by omega)
    obtain ⟨p, hp⟩ : ∃ p, r.ppl[k]? = some p := ⟨_, List.getElem?_eq_getElem hk1⟩
    have hp' : r.ppl[k] = p := (List.getElem?_eq_some_iff.1 hp).2
    have hpo : p.ok = (withinB p.rat 0 255 && withinB p.rank 0 3 && withinB p.dive 0 2000) := rfl
    have hbad : p.ok = false → r.ok = false := fun h => by
      rw [hr, List.all_eq_false]; exact ⟨p, by rw [← hp']; exact List.getElem_mem hk1, by simp [h]⟩
    generalize g1 : withinB p.rat 0 255 = c1 at hpo
    generalize g2 : withinB p.rank 0 3 = c2 at hpo
    generalize g3 : withinB p.dive 0 2000 = c3 at hpo
    cases c1
    · have hz := hbad (by rw [hpo]; rfl)
      simp -dsimp [hki]
      repeat' (first | omega | (simp -dsimp [E15, ri, cellp, ints, Ro.row, pplV, Pn.row, hki, hk1, hp, hp', g1, hz]) | (refine Also.intro ?_ fun _ => ?_) | (refine Hold.intro fun _ => ?_) | (refine And.intro ?_ ?_))
    cases c2
    · have hz := hbad (by rw [hpo]; rfl)
      simp -dsimp [hki]
      repeat' (first | omega | (simp -dsimp [E15, ri, cellp, ints, Ro.row, pplV, Pn.row, hki, hk1, hp, hp', g1, g2, hz]) | (refine Also.intro ?_ fun _ => ?_) | (refine Hold.intro fun _ => ?_) | (refine And.intro ?_ ?_))
    cases c3
    · have hz := hbad (by rw [hpo]; rfl)
      simp -dsimp [hki]
      repeat' (first | omega | (simp -dsimp [E15, ri, cellp, ints, Ro.row, pplV, Pn.row, hki, hk1, hp, hp', g1, g2, g3, hz]) | (refine Also.intro ?_ fun _ => ?_) | (refine Hold.intro fun _ => ?_) | (refine And.intro ?_ ?_))
    simp -dsimp [hki]
    repeat' (first | omega | (simp -dsimp [E15, ri, cellp, ints, Ro.row, pplV, Pn.row, hki, hk1, hp, hp', g1, g2, g3, wk]) | (refine Also.intro ?_ fun _ => ?_) | (refine Hold.intro fun _ => ?_) | (refine And.intro ?_ ?_))
    refine ⟨k + 1, tle_chain rfl ?_, ?_, ⟨by omega, fun j h hj => ?_⟩, by omega⟩
    · simp [okAll, okv]
    · exact (by (try simp -dsimp only [hpush_noH, hpush_hps, hps_over]); refine hle_hps ?_; simp -dsimp [allK, Ro.row, pplV]; repeat' (first | (refine And.intro ?_ ?_) | (refine sLe.same ?_ ?_ <;> (simp; done)) | (refine sLe.clear ?_ ?_ <;> (first | (simp; done) | (simp; omega))) | (refine sLe.drop 1 ?_ ?_ ?_ <;> (simp; done))))
    · by_cases hjk : j = k
      · subst hjk; rw [hp', hpo]; rfl
      · exact hal j h (by omega)
  · have hkn : ¬ (k : Int) < r.ppl.length := by omega
    have hz : r.ok = true := by
      rw [hr, List.all_eq_true]
      intro p hp
      obtain ⟨j, hj, rfl⟩ := List.getElem_of_mem hp
      exact hal j hj (by omega)
    simp -dsimp [hkn]
    repeat' (first | omega | (simp -dsimp [E15, ri, cellp, ints, Ro.row, pplV, hkn, hz]) | (refine Also.intro ?_ fun _ => ?_) | (refine Hold.intro fun _ => ?_) | (refine And.intro ?_ ?_))
theorem ok15 : FnOK Try.prog 15 (.pure rosS) := pure_fn (E := E15) rfl (.cons ok40 .nil) (ok := []) (fn := Try.f15) (by kernel_rfl) (by kernel_rfl) (by kernel_rfl) (by kernel_rfl) rfl (fun _ _ => by simp) b15
/-! the law -/
@[simp] def ezE (d : Ro × List Du × Ez) : List V := [.agg d.1.row, .sl 3 (d.2.1.map Du.row), .agg d.2.2.row]
theorem Ez.row_inj (a b : Ez) (h : a.row = b.row) : a = b := by
  obtain ⟨⟨⟨a1, a2, a3, a4⟩, a5⟩, a6, a7, a8, a9⟩ := a; obtain ⟨⟨⟨b1, b2, b3, b4⟩, b5⟩, b6, b7, b8, b9⟩ := b
  simp [Ez.row] at h
  simp [h]
theorem far_dec (r : Ro) (l : List Du) : decC chE [.agg [.sl 3 (r.ppl.map Pn.row), .int .i64 r.lng, .int .i64 r.rst, .int .i64 r.win, .int .i64 r.tot, .int .i64 r.rcn], .sl 3 (l.map Du.row)] = (r, l) := chE_dec r l
structure EzP (d : Ro × List Du × Ez) : Prop where
  l : ∀ x ∈ d.2.1, I64 x.a ∧ I64 x.b
  a : I64 d.2.2.d.c.a
  b : I64 d.2.2.d.c.b
noncomputable abbrev trueEasS : PSpec := mkP ezE EzP fun _ => .bool true
/-- In how far a number is among others. -/
def anyTo (l : List Int) (x : Int) (k : Nat) : Bool := (l.take k).any fun y => decide (y = x)
theorem anyTo_succ {l : List Int} {k : Nat} {y : Int} (x : Int) (h : l[k]? = some y) : anyTo l x (k + 1) = (anyTo l x k || decide (y = x)) := by
  unfold anyTo
  rw [List.take_add_one, h]; simp [List.any_append]
theorem anyTo_end {l : List Int} {x : Int} (h : x ∈ l) : anyTo l x l.length = true := by
  unfold anyTo
  rw [List.take_length, List.any_eq_true]; exact ⟨x, h, by simp⟩
theorem whyO_len (r : Ro) (l : List Du) (n : Int) (c : Cl) : (whyO r l n c).1.length ≤ 10 := by
  unfold whyO
  split
  · unfold whyW brkW
    simp only [List.length_append]
    repeat' split
    all_goals simp
  · simp
theorem whyO_zero {r : Ro} {l : List Du} {n : Int} {c : Cl} (h : (whyO r l n c).2 = 0) : chk2W srtD r l (withinB n 0 (r.ppl.length - 1) && callW c) = 0 ∧ (whyO r l n c).1 = whyW srtD r l n c := by
  unfold whyO at h ⊢
  split at h
  · rename_i h1
    rw [if_pos h1]; exact ⟨h1, rfl⟩
  · rename_i h1; exact absurd h h1
theorem whyO_easier {r r' : Ro} (he : Eas r r') (hf : r'.ok = true) (hr : r.ok = true) {l : List Du} (hl : ∀ d ∈ l, -9223372036854775808 ≤ d.b) {n : Int} {c : Cl} (hc : -9223372036854775808 ≤ c.b) (h : (whyO r l n c).2 = 0) : (whyO r' l n c).2 = 0 ∧ ∀ k ∈ (whyO r' l n c).1, k ∈ (whyO r l n c).1 := by
  obtain ⟨h1, h2⟩ := whyO_zero h
  obtain ⟨z1, z2⟩ := chk2_zero h1
  have f1 := Ro.ok_iff.1 hr
  have f2 := Ro.ok_iff.1 hf
  have z3 := chkEW_easier srtD he f2.rst.1 hf hl z1
  have hb : (withinB n 0 (r'.ppl.length - 1) && callW c) = true := by rw [he.ppl]; exact z2
  have h3 : chk2W srtD r' l (withinB n 0 (r'.ppl.length - 1) && callW c) = 0 := by unfold chk2W; rw [if_pos z3, if_pos hb]
  have h4 : whyO r' l n c = (whyW srtD r' l n c, 0) := by unfold whyO; rw [if_pos h3]
  have hcw : callW c = true := by simp only [Bool.and_eq_true] at z2; exact z2.2
  have hcb : c.b ≤ 2000 := by
    simp only [callW, Bool.and_eq_true] at hcw; exact strW_low hcw.1
  rw [h4, h2]
  exact ⟨rfl, fun k hk => whyW_mono srtD he f2.rst.1 f1.rst.2 (chkEW_low srtD hl z1) ⟨hc, hcb⟩ hk⟩
noncomputable abbrev E4 : Env := { P := Try.prog, fn := tbl [(14, .pure farS), (15, .pure rosS), (9, .pure worksS), (17, .pure cpyS), (18, .pure dlS), (16, .pure WhyS)], own := [], key := 400, nt := 139 }
theorem b4 : PureBody E4 [] Try.f4 trueEasS := by
  refine pb ?_
  rintro ⟨r, l, e⟩ ⟨hl, ha, hb⟩
  simp only at hl ha hb
  by_cases hfar : 20 < r.ppl.length ∨ 80 < l.length
  · have hfar' : (decide (20 < r.ppl.length) || decide (80 < l.length)) = true := by
      rcases hfar with h | h <;> simp [h]
    simp -dsimp [Try.f4, E4, Ro.row, pplV, Ez.row]
    repeat' (first | omega | (simp -dsimp [E4, ri, cellp, ints, Ro.row, pplV, Ez.row, far_dec, hfar']) | (refine Also.intro ?_ fun _ => ?_) | (refine Hold.intro fun _ => ?_) | (refine And.intro ?_ ?_))
  have hp20 : r.ppl.length ≤ 20 := by omega
  have hl80 : l.length ≤ 80 := by omega
  have hp6 : r.ppl.length ≤ 1000000 := by omega
  have hl6 : l.length ≤ 1000000 := by omega
  have hfar' : (decide (20 < r.ppl.length) || decide (80 < l.length)) = false := by
    rw [decide_eq_false (by omega), decide_eq_false (by omega)]; rfl
  clear hfar
  cases hok : r.ok
  · simp -dsimp [Try.f4, E4, Ro.row, pplV, Ez.row]
    repeat' (first | omega | (simp -dsimp [E4, ri, cellp, ints, Ro.row, pplV, Ez.row, far_dec, roE_dec, hfar', hok, hp6, hl6]) | (refine Also.intro ?_ fun _ => ?_) | (refine Hold.intro fun _ => ?_) | (refine And.intro ?_ ?_))
  by_cases hs : ((0 ≤ e.lng ∧ 0 ≤ e.rst) ∧ 0 ≤ e.tot) ∧ 0 ≤ e.rcn
  case neg =>
    simp -dsimp [Try.f4, E4, Ro.row, pplV, Ez.row]
    repeat' (first | omega | (simp -dsimp [E4, ri, cellp, ints, Ro.row, pplV, Ez.row, far_dec, roE_dec, hfar', hok, hp6, hl6]) | (refine Also.intro ?_ fun _ => ?_) | (refine Hold.intro fun _ => ?_) | (refine And.intro ?_ ?_))
    all_goals exact absurd (by assumption) hs
  obtain ⟨⟨⟨s1, s2⟩, s3⟩, s4⟩ := hs
  have s1' : (e.lng < 0) = False := eq_false (by omega)
  have s2' : (e.rst < 0) = False := eq_false (by omega)
  have s3' : (e.tot < 0) = False := eq_false (by omega)
  have s4' : (e.rcn < 0) = False := eq_false (by omega)
  have hWP : ∀ r : Ro, r.ppl.length ≤ 1000000 → WyP (r, l, e.d.n, e.d.c) := fun r h => ⟨h, hl6⟩
  by_cases hw0 : (whyO r l e.d.n e.d.c).2 = 0
  case neg =>
    have hw0' : ((whyO r l e.d.n e.d.c).2 = 0) = False := eq_false hw0
    simp -dsimp [Try.f4, E4, Ro.row, pplV, Ez.row]
    repeat' (first | omega | (simp -dsimp [E4, ri, cellp, ints, Ro.row, pplV, Ez.row, far_dec, roE_dec, dlE_dec, whE_dec, hfar', hok, hp6, hl6, s1', s2', s3', s4', hWP, hw0']) | (refine Also.intro ?_ fun _ => ?_) | (refine Hold.intro fun _ => ?_) | (refine And.intro ?_ ?_))
  have hf := Ro.ok_iff.1 hok
  obtain ⟨hfn, hfp, hfl, hfr, hfw, hfc, hft⟩ := hf
  obtain ⟨m1, hm1⟩ : ∃ m1, (if (2000 : Int) < e.lng then 2000 else e.lng) = m1 := ⟨_, rfl⟩
  obtain ⟨m2, hm2⟩ : ∃ m2, (if (2000 : Int) < e.rst then 2000 else e.rst) = m2 := ⟨_, rfl⟩
  obtain ⟨m3, hm3⟩ : ∃ m3, (if (2000 : Int) < e.tot then 2000 else e.tot) = m3 := ⟨_, rfl⟩
  obtain ⟨m4, hm4⟩ : ∃ m4, (if (2000 : Int) < e.rcn then 2000 else e.rcn) = m4 := ⟨_, rfl⟩
  have b1 : 0 ≤ m1 ∧ m1 ≤ 2000 := by rw [← hm1]; split <;> omega
  have b2 : 0 ≤ m2 ∧ m2 ≤ 2000 := by rw [← hm2]; split <;> omega
  have b3 : 0 ≤ m3 ∧ m3 ≤ 2000 := by rw [← hm3]; split <;> omega
  have b4 : 0 ≤ m4 ∧ m4 ≤ 2000 := by rw [← hm4]; split <;> omega
  have w1 : IntKind.wrap .i64 (r.lng + m1) = r.lng + m1 := wrap_id (by omega) (by omega)
  have w2 : IntKind.wrap .i64 (r.rst - m2) = r.rst - m2 := wrap_id (by omega) (by omega)
  have w3 : IntKind.wrap .i64 (r.tot + m3) = r.tot + m3 := wrap_id (by omega) (by omega)
  have w4 : IntKind.wrap .i64 (r.rcn + m4) = r.rcn + m4 := wrap_id (by omega) (by omega)
  obtain ⟨L, hL⟩ : ∃ L, (if r.lng + m1 < 2000 then r.lng + m1 else 2000) = L := ⟨_, rfl⟩
  obtain ⟨R, hR⟩ : ∃ R, (if m2 < r.rst then r.rst - m2 else 0) = R := ⟨_, rfl⟩
  obtain ⟨T, hT⟩ : ∃ T, (if r.tot + m3 < r.win then r.tot + m3 else r.win) = T := ⟨_, rfl⟩
  obtain ⟨C, hC⟩ : ∃ C, (if r.rcn + m4 < 2000 then r.rcn + m4 else 2000) = C := ⟨_, rfl⟩
  have c1 : r.lng ≤ L ∧ L ≤ 2000 := by rw [← hL]; split <;> omega
  have c2 : 0 ≤ R ∧ R ≤ r.rst := by rw [← hR]; split <;> omega
  have c3 : r.tot ≤ T ∧ T ≤ r.win := by rw [← hT]; split <;> omega
  have c4 : r.rcn ≤ C ∧ C ≤ 2000 := by rw [← hC]; split <;> omega
  have hE : Eas r ⟨r.ppl, L, R, r.win, T, C⟩ := ⟨rfl, rfl, c1.1, c2.2, c3.1, c4.1⟩
  have hok' : Ro.ok ⟨r.ppl, L, R, r.win, T, C⟩ = true := Ro.ok_iff.2 ⟨hfn, hfp, ⟨by simp only; omega, c1.2⟩, ⟨c2.1, by simp only; omega⟩, hfw, ⟨by simp only; omega, c4.2⟩, ⟨by simp only; omega, c3.2⟩⟩
  obtain ⟨hz2, hsub⟩ := whyO_easier hE hok' hok (fun d hd => (hl d hd).2.1) hb.1 hw0
  have hdec2 := whE_dec ⟨r.ppl, L, R, r.win, T, C⟩ l e.d.n e.d.c
  have hWP2 := hWP ⟨r.ppl, L, R, r.win, T, C⟩ hp6
  have hwl1 := whyO_len r l e.d.n e.d.c
  have hwl2 := whyO_len ⟨r.ppl, L, R, r.win, T, C⟩ l e.d.n e.d.c
  have hWP1 := hWP r hp6
  clear hWP hE hok' hfp
  simp only at hdec2
  generalize hW1 : (whyO r l e.d.n e.d.c).1 = W1 at *
  generalize hW2 : (whyO ⟨r.ppl, L, R, r.win, T, C⟩ l e.d.n e.d.c).1 = W2 at *
  simp -dsimp [Try.f4, E4, Ro.row, pplV, Ez.row]
  repeat' (first | omega | (simp -dsimp [E4, ri, cellp, ints, Ro.row, pplV, Ez.row, far_dec, roE_dec, dlE_dec, whE_dec, hfar', hok, hp6, hl6, s1', s2', s3', s4', hWP1, hw0, hW1, hm1, hm2, hm3, hm4, w1, w2, w3, w4, hL, hR, hT, hC, hdec2, hWP2, hz2, hW2]) | (refine Also.intro ?_ fun _ => ?_) | (refine Hold.intro fun _ => ?_) | (refine And.intro ?_ ?_))
  refine awp_loop [112, 113, 114, 115, 13, 14, 118, 119, 120, 121, 124, 125, 126, 127, 128, 129, 130, 131, 132, 133, 134, 135, 122, 123, 136, 137, 6, 116, 117, 12] (fun k : { k : Nat // k ≤ W2.length } => [(12, (true, .int .i64 k.1))]) (fun _ => hps [(409, { base := 0, blks := [{ z := 6, els := [[.sl 3 (r.ppl.map Pn.row), .int .i64 L, .int .i64 R, .int .i64 r.win, .int .i64 T, .int .i64 C]], ty := 33 }] }), (405, { base := 0, blks := [{ z := 9, els := [e.row], ty := 40 }] }), (403, { base := 0, blks := [{ z := 6, els := [r.row], ty := 33 }] })] noH) (fun k => W2.length - k.1) ⟨0, by omega⟩ ?_ ?_ ?_
  · simp [okAll, okv]
  · exact (by (try simp -dsimp only [hpush_noH, hpush_hps, hps_over]); refine hle_hps ?_; simp -dsimp [allK, Ro.row, pplV, Ez.row]; repeat' (first | (refine And.intro ?_ ?_) | (refine sLe.same ?_ ?_ <;> (simp; done)) | (refine sLe.clear ?_ ?_ <;> (first | (simp; done) | (simp; omega))) | (refine sLe.drop 1 ?_ ?_ ?_ <;> (simp; done))))
  rintro ⟨k, hk⟩
  dsimp only
  by_cases hk1 : k < W2.length
  case neg =>
    have hkn : ¬ (k : Int) < W2.length := by omega
    simp -dsimp [hkn]
    repeat' (first | omega | (simp -dsimp [E4, ri, cellp, ints, hkn]) | (refine Also.intro ?_ fun _ => ?_) | (refine Hold.intro fun _ => ?_) | (refine And.intro ?_ ?_))
  have hki : (k : Int) < W2.length := by omega
  have wk : IntKind.wrap .i64 ((k : Int) + 1) = (k + 1 : Nat) := wrap_id (by omega) (by omega)
  obtain ⟨x, hx⟩ : ∃ x, W2[k]? = some x := ⟨_, List.getElem?_eq_getElem hk1⟩
  have hx' : W2[k] = x := (List.getElem?_eq_some_iff.1 hx).2
  have hend := anyTo_end (hsub x (by rw [← hx']; exact List.getElem_mem hk1))
  simp -dsimp [hki]
  repeat' (first | omega | (simp -dsimp [E4, ri, cellp, ints, hki, hk1, hx, hx']) | (refine Also.intro ?_ fun _ => ?_) | (refine Hold.intro fun _ => ?_) | (refine And.intro ?_ ?_))
  refine awp_loop [118, 119, 120, 121, 124, 125, 126, 127, 128, 129, 130, 131, 132, 133, 134, 135, 13, 122, 123, 14] (fun j : { j : Nat // j ≤ W1.length } => [(14, (true, .int .i64 j.1)), (13, (true, .bool (anyTo W1 x j.1)))]) (fun _ => hps [(409, { base := 0, blks := [{ z := 6, els := [[.sl 3 (r.ppl.map Pn.row), .int .i64 L, .int .i64 R, .int .i64 r.win, .int .i64 T, .int .i64 C]], ty := 33 }] }), (405, { base := 0, blks := [{ z := 9, els := [e.row], ty := 40 }] }), (403, { base := 0, blks := [{ z := 6, els := [r.row], ty := 33 }] })] noH) (fun j => W1.length - j.1) ⟨0, by omega⟩ ?_ (HLe.refl _) ?_
  · simp [okAll, okv, anyTo]
  rintro ⟨j, hj⟩
  dsimp only
  by_cases hj1 : j < W1.length
  · have hji : (j : Int) < W1.length := by omega
    have wj : IntKind.wrap .i64 ((j : Int) + 1) = (j + 1 : Nat) := wrap_id (by omega) (by omega)
    obtain ⟨y, hy⟩ : ∃ y, W1[j]? = some y := ⟨_, List.getElem?_eq_getElem hj1⟩
    have hy' : W1[j] = y := (List.getElem?_eq_some_iff.1 hy).2
    have hS := anyTo_succ x hy
    cases hb1 : anyTo W1 x j <;> rw [hb1] at hS
    · by_cases hyx : y = x
      · subst hyx
        simp -dsimp [hji]
        repeat' (first | omega | (simp -dsimp [E4, ri, cellp, ints, hji, hj1, hki, hk1, hx, hx', hy, hy', wj]) | (refine Also.intro ?_ fun _ => ?_) | (refine Hold.intro fun _ => ?_) | (refine And.intro ?_ ?_))
        refine ⟨j + 1, tle_chain rfl ?_, HLe.refl _, by omega, by omega⟩
        simp [okAll, okv, hS]
      · have hyx' : (y = x) = False := eq_false hyx
        simp -dsimp [hji]
        repeat' (first | omega | (simp -dsimp [E4, ri, cellp, ints, hji, hj1, hki, hk1, hx, hx', hy, hy', hyx', wj]) | (refine Also.intro ?_ fun _ => ?_) | (refine Hold.intro fun _ => ?_) | (refine And.intro ?_ ?_))
        refine ⟨j + 1, tle_chain rfl ?_, HLe.refl _, by omega, by omega⟩
        simp [okAll, okv, hS, hyx]
    · simp -dsimp [hji]
      repeat' (first | omega | (simp -dsimp [E4, ri, cellp, ints, hji, hj1, hki, hk1, hx, hx', hy, hy', wj]) | (refine Also.intro ?_ fun _ => ?_) | (refine Hold.intro fun _ => ?_) | (refine And.intro ?_ ?_))
      refine ⟨j + 1, tle_chain rfl ?_, HLe.refl _, by omega, by omega⟩
      simp [okAll, okv, hS]
  · have hjn : ¬ (j : Int) < W1.length := by omega
    have hje : j = W1.length := by omega
    subst hje
    rw [hend]
    simp -dsimp [hjn]
    repeat' (first | omega | (simp -dsimp [E4, ri, cellp, ints, hjn, wk]) | (refine Also.intro ?_ fun _ => ?_) | (refine Hold.intro fun _ => ?_) | (refine And.intro ?_ ?_))
    refine ⟨k + 1, tle_kept (kept_upds rfl (kept_forget rfl (kept_upds rfl kept_base))) ?_, HLe.refl _, by omega, by omega⟩
    simp [okAll, okv]
theorem ok4 : FnOK Try.prog 4 (.pure trueEasS) := pure_fn (E := E4) rfl (.cons ok14 (.cons ok15 (.cons ok9 (.cons ok17 (.cons ok18 (.cons ok16 .nil)))))) (ok := []) (fn := Try.f4) (by kernel_rfl) (by kernel_rfl) (by kernel_rfl) (by kernel_rfl) rfl (fun _ _ => by simp) b4
end Go.Sx

