/- HealthReason's contract. No conditions. -/
import Derived.Test.YtjnfgejicdnjnaaSxHt
set_option linter.unusedSimpArgs false
set_option linter.unusedVariables false
set_option maxRecDepth 100000
set_option maxHeartbeats 1000000
namespace Go.Sx
open Go.Proofs

abbrev trueReasonS : PSpec := { dom := List Int × LimD, enc := fun d => [ints d.1, limV d.2], dec := fun l => ((l.getD 0 .top).toInts, (l.getD 1 .top).toLim), pre := fun d => d.1.length ≤ 9223372036854775807, res := fun _ => .bool true }
noncomputable abbrev E8 : Env := { P := Try.prog, fn := tbl [(15, .pure TrendS), (19, .pure ChanceS), (23, .pure alS), (18, .pure worksS)], own := [], key := 800, nt := 219 }
theorem b8 : PureBody E8 [] Try.f8 trueReasonS := by
  refine pb ?_
  rintro ⟨l, ⟨lim, ln, ld⟩⟩ hl
  simp only at hl
  by_cases hv : validB l = true
  case neg =>
    have hv' : validB l = false := by simpa using hv
    simp -dsimp [Try.f8, E8, ints, hl, hv', limV]
    repeat' (first | omega | (simp -dsimp [E8, ri, cellp, ints, hl, hv', limV]) | (refine Also.intro ?_ fun _ => ?_) | (refine Hold.intro fun _ => ?_) | (refine And.intro ?_ ?_))
  obtain ⟨v1, v2⟩ := valid_len hv
  obtain ⟨bk, s, n, d, f, e1, e2, e3, s1, s2, e4, e5, e6, f1, f2, e7, e8, n1, d1, n2, d2, hfd, hinc, hone⟩ := reason_facts hv
  have e4' : validB l = true := hv
  simp -dsimp [Try.f8, E8, ints, hl, hv, e3, e7, e8, limV]
  repeat' (first | omega | (simp -dsimp [E8, ri, cellp, ints, hl, hv, e3, e7, e8, limV]) | (refine Also.intro ?_ fun _ => ?_) | (refine Hold.intro fun _ => ?_) | (refine And.intro ?_ ?_))
  refine awp_loop_g [(10, 899, 1, 3)] rfl (by simp) [37, 38, 39, 40, 43, 44, 45, 46, 47, 48, 49, 50, 51, 52, 53, 10, 54, 55, 56, 57, 11, 58, 59, 60, 61, 62, 63, 64, 65, 66, 67, 68, 69, 70, 71, 72, 73, 74, 12, 75, 76, 77, 78, 79, 80, 81, 82, 83, 84, 85, 13, 41, 42, 14] (fun k : Fin (l.length + 1) => [(14, (true, .int .i64 (k.1 : Nat))), (10, (true, .bsl 899 0 k.1)), (11, (true, .int .i64 (facN k.1 : Nat))), (12, (true, .bool (incB l k.1))), (13, (true, .bool (oneB l k.1)))]) (fun k => hps [(899, { base := 0, blks := [{ z := 1, els := (backTo l k.1).map ri, ty := 3 }] }), (803, { base := 0, blks := [{ z := 3, els := [[.int .i64 lim, .int .i64 ln, .int .i64 ld]], ty := 35 }] })] noH) (fun k => l.length - k.1) ⟨0, by omega⟩ ?_ (by (try simp -dsimp only [hpush_noH, hpush_hps, hps_over]); refine hle_hps ?_; simp -dsimp [allK, backTo, ri]; repeat' (first | (refine And.intro ?_ ?_) | (refine sLe.same ?_ ?_ <;> (simp; done)) | (refine sLe.clear ?_ ?_ <;> (simp; done)) | (refine sLe.drop 1 ?_ ?_ ?_ <;> (simp; done)))) ?_
  · simp [okAll, okv, facN, incB, oneB]
  rintro ⟨k, hk⟩
  simp only
  by_cases hk1 : k < l.length
  case pos =>
    have hkl : ((k : Int) < l.length) := by omega
    have w1 : IntKind.wrap .i64 ((k : Int) + 1) = (k + 1 : Nat) := wrap_id (by omega) (by omega)
    have wl : IntKind.wrap .i64 ((l.length : Int) - 1) = (l.length : Int) - 1 := wrap_id (by omega) (by omega)
    have hbi : bi l k < l.length := by unfold bi; omega
    have wb : IntKind.wrap .i64 ((l.length : Int) - 1 - (k : Int)) = (bi l k : Nat) := by rw [wrap_id (by omega) (by omega)]; unfold bi; omega
    have hbl := backTo_len l k
    have hbs := backTo_succ l k
    have egl : l.getD (bi l k) 0 = l[bi l k] := by simp [List.getD, List.getElem?_eq_getElem hbi]
    have egk : l.getD k 0 = l[k] := by simp [List.getD, List.getElem?_eq_getElem hk1]
    have h0l : 0 < l.length := by omega
    have eg0 : l.getD 0 0 = l[0] := by simp [List.getD, List.getElem?_eq_getElem h0l]
    have hl0 : ¬ l = [] := by intro e; rw [e] at h0l; simp at h0l
    rw [egl] at hbs
    have hfk := fac8 (show k + 1 ≤ 8 by omega)
    have hfs : (facN k : Int) * ((k : Int) + 1) = (facN (k + 1) : Nat) := by simp [facN, Int.mul_comm]
    have wf : IntKind.wrap .i64 ((facN k : Int) * ((k : Int) + 1)) = (facN (k + 1) : Nat) := by rw [hfs]; exact wrap_id (by omega) (by omega)
    have hos : oneB l (k + 1) = (oneB l k && (l[k] == l[0])) := by rw [oneB, egk, eg0]
    have hb8 : (k + 1) * 8 ≤ 140737488355328 := by omega
    by_cases hk0 : k = 0
    case pos =>
      subst hk0
      have his : incB l 1 = true := rfl
      have wb0 : IntKind.wrap .i64 ((l.length : Int) - 1) = (bi l 0 : Nat) := by rw [wrap_id (by omega) (by omega)]; unfold bi; omega
      have wb1 : IntKind.wrap .i64 (bi l 0 : Nat) = (bi l 0 : Nat) := wrap_id (by omega) (by omega)
      have hf0 : facN 0 = 1 := rfl
      have hf1 : facN 1 = 1 := rfl
      have hi0 : incB l 0 = true := rfl
      have ho0 : oneB l 0 = true := rfl
      have wone : IntKind.wrap .i64 1 = 1 := by decide
      simp -dsimp [hk1, hkl, h0l, ri]
      repeat' (first | omega | (simp -dsimp [E8, ri, cellp, ints, hk1, hkl, h0l, hl0, wb0, wb1, hbi, hbl, hf0, hi0, ho0, wone]) | (refine Also.intro ?_ fun _ => ?_) | (refine Hold.intro fun _ => ?_) | (refine And.intro ?_ ?_))
      refine ⟨⟨1, by omega⟩, tle_chain rfl ?_, (by (try simp -dsimp only [hpush_noH, hpush_hps, hps_over]); refine hle_hps ?_; simp -dsimp [allK, hbs, ri]; repeat' (first | (refine And.intro ?_ ?_) | (refine sLe.same ?_ ?_ <;> (simp; done)) | (refine sLe.clear ?_ ?_ <;> (simp; done)) | (refine sLe.drop 1 ?_ ?_ ?_ <;> (simp; done)))), by simp only; omega⟩
      simp [okAll, okv, his, hos, hf1, wone, ho0]
    obtain ⟨p, hp⟩ : ∃ p : Nat, k = p + 1 := ⟨k - 1, by omega⟩
    have hpl : p < l.length := by omega
    have egp : l.getD p 0 = l[p] := by simp [List.getD, List.getElem?_eq_getElem hpl]
    have wp : IntKind.wrap .i64 ((k : Int) - 1) = (p : Nat) := by rw [wrap_id (by omega) (by omega)]; omega
    have his : incB l (k + 1) = (incB l k && decide (l[k] > l[p])) := by
      have hkb : (k == 0) = false := by simpa using hk0
      rw [incB, egk, show k - 1 = p by omega, egp, hkb, Bool.false_or]
    simp -dsimp [hk1, hkl, hk0, ri]
    repeat' (first | omega | (simp -dsimp [E8, ri, cellp, ints, hk1, hkl, hk0, h0l, hl0, hpl, wp, w1, wl, wb, hbi, hbl, wf, hb8]) | (refine Also.intro ?_ fun _ => ?_) | (refine Hold.intro fun _ => ?_) | (refine And.intro ?_ ?_))
    refine ⟨⟨k + 1, by omega⟩, tle_chain rfl ?_, (by (try simp -dsimp only [hpush_noH, hpush_hps, hps_over]); refine hle_hps ?_; simp -dsimp [allK, hbs, ri]; repeat' (first | (refine And.intro ?_ ?_) | (refine sLe.same ?_ ?_ <;> (simp; done)) | (refine sLe.clear ?_ ?_ <;> (simp; done)) | (refine sLe.drop 1 ?_ ?_ ?_ <;> (simp; done)))), by simp only; omega⟩
    simp [okAll, okv, his, hos]
  have hke : k = l.length := by omega
  subst hke
  generalize incB l l.length = ic at *
  generalize oneB l l.length = oc at *
  have ws : IntKind.wrap .i64 (-s) = -s := wrap_id (by omega) (by omega)
  have hb9 : bk.length ≤ 9223372036854775807 := by omega
  have d3 : ¬ d < 1 := by omega
  have n3 : ¬ n < 1 := by omega
  have nd : ¬ d < n := by omega
  have d0 : ¬ d = 0 := by omega
  have hz : (alZ l lim ln ld).2 = 0 → (alZ l lim ln ld).1 = idxP (hit l lim ln ld) l.length ∧ alOk l lim ln ld = true := by
    unfold alZ
    rw [if_neg (by omega)]
    split
    · rename_i h; exact fun _ => ⟨rfl, h⟩
    · intro h; simp at h
  generalize ht : (alZ l lim ln ld).1 = t at hz
  generalize her : (alZ l lim ln ld).2 = er at hz
  simp -dsimp [e1, e2, e4, e5, e6, ws, d3, n3, nd, d0, hfd]
  repeat' (first | omega | (simp -dsimp [E8, ri, cellp, ints, e1, e2, e4, e5, e6, ws, d3, n3, nd, d0, hfd, hb9, ht, her]) | (refine Also.intro ?_ fun _ => ?_) | (refine Hold.intro fun _ => ?_) | (refine And.intro ?_ ?_))
  iterate 5 (next => cases ic <;> cases oc <;> simp_all)
  clear hinc hone hfd
  obtain ⟨rfl, hal⟩ := hz (by first | assumption | omega)
  simp only [alOk, Bool.and_eq_true] at hal
  obtain ⟨⟨⟨a1, a2⟩, a3⟩, a4⟩ := hal
  have r3 : 0 ≤ ln ∧ ln ≤ 1000000 := by simpa [withinB] using a2
  have r4 : 1 ≤ ld ∧ ld ≤ 1000000 := by simpa [withinB] using a3
  obtain ⟨i1, i2⟩ := idx_bound (hit l lim ln ld) l.length
  have i2 := i2 (by omega)
  have hcs : ∀ k, k < l.length → _ := fun k hk => idx_cases (p := hit l lim ln ld) hk
  generalize idxP (hit l lim ln ld) l.length = t at *
  refine awp_loop [159, 160, 161, 162, 166, 167, 168, 169, 170, 165, 171, 172, 173, 19, 20, 21, 174, 175, 4, 176, 177, 178, 179, 180, 181, 182, 183, 184, 185, 186, 187, 188, 189, 190, 191, 192, 193, 22, 194, 195, 196, 197, 198, 199, 200, 201, 202, 203, 204, 205, 206, 207, 163, 164, 18] (fun k : Fin (l.length + 1) => [(18, (true, .int .i64 (k.1 : Nat)))]) (fun _ => hps [(899, { base := 0, blks := [{ z := 1, els := bk.map ri, ty := 3 }] }), (803, { base := 0, blks := [{ z := 3, els := [[.int .i64 lim, .int .i64 ln, .int .i64 ld]], ty := 35 }] })] noH) (fun k => l.length - k.1) ⟨0, by omega⟩ ?_ (by (try simp -dsimp only [hpush_noH, hpush_hps, hps_over]); refine hle_hps ?_; simp -dsimp [allK, ]; repeat' (first | (refine And.intro ?_ ?_) | (refine sLe.same ?_ ?_ <;> (simp; done)) | (refine sLe.clear ?_ ?_ <;> (simp; done)) | (refine sLe.drop 1 ?_ ?_ ?_ <;> (simp; done)))) ?_
  · simp [okAll, okv]
  rintro ⟨k, hk⟩
  simp only
  by_cases hk1 : k < l.length
  case neg =>
    have hke : k = l.length := by omega
    subst hke
    simp -dsimp [i1, i2]
    repeat' (first | omega | (simp -dsimp [E8, ri, cellp, ints, i1, i2]) | (refine Also.intro ?_ fun _ => ?_) | (refine Hold.intro fun _ => ?_) | (refine And.intro ?_ ?_))
  have hkl : ((k : Int) < l.length) := by omega
  have w1 : IntKind.wrap .i64 ((k : Int) + 1) = (k + 1 : Nat) := wrap_id (by omega) (by omega)
  have hwp := win_pre (l := l) (k := k) (by omega)
  have hwv := win_valid a4 hk1
  obtain ⟨m1, m2⟩ := win_len l hk1
  obtain ⟨b1, b2, b3⟩ := chZ_bound (win l k)
  have g1 := fac8 m2
  have g2 := facN_pos (win l k).length
  have hwl : (win l k).length ≤ 9223372036854775807 := by omega
  obtain ⟨q1, q2, q3, q4⟩ := lowN_le (num := (chZ (win l k)).1) (den := (chZ (win l k)).2) b1 (by omega)
  have hhl := hit_low (a := (chZ (win l k)).1) (b := (chZ (win l k)).2) (num := ln) (den := ld) b1 (by omega)
  have eG : l.getD k 0 = l[k] := by simp [List.getD, List.getElem?_eq_getElem hk1]
  have hh : hit l lim ln ld k = (decide (lim ≤ l[k]) && decide (lowN (chZ (win l k)).1 (chZ (win l k)).2 * ld ≤ ln * lowD (chZ (win l k)).1 (chZ (win l k)).2)) := by rw [hit, eG]; congr 1; exact decide_eq_decide.2 (by rw [hhl])
  have hc := hcs k hk1
  generalize hN : lowN (chZ (win l k)).1 (chZ (win l k)).2 = N at *
  generalize hD : lowD (chZ (win l k)).1 (chZ (win l k)).2 = D at *
  have y1 := mul_abs (a := N) (b := ld) (m := 40320) (n := 1000000) (by omega) (by omega) (by omega) (by omega)
  have y2 := mul_abs (a := ln) (b := D) (m := 1000000) (n := 40320) (by omega) (by omega) (by omega) (by omega)
  have wN : IntKind.wrap .i64 (N * ld) = N * ld := wrap_id (by omega) (by omega)
  have wD : IntKind.wrap .i64 (ln * D) = ln * D := wrap_id (by omega) (by omega)
  generalize hlk : l[k] = x at *
  by_cases hx : lim ≤ x
  case neg =>
    have hf : hit l lim ln ld k = false := by rw [hh]; simp; omega
    rw [hf] at hc
    have hne : ¬ (k : Int) = t := by
      rcases hc with ⟨h, _⟩ | ⟨h, _⟩ | ⟨_, h⟩
      · cases h
      · cases h
      · exact fun e => h e.symm
    simp -dsimp [hk1, hkl, hx, hne, ri]
    repeat' (first | omega | (simp -dsimp [E8, ri, cellp, ints, hk1, hkl, hx, hne, w1, hwp, hwv, hwl, hN, hD, hlk]) | (refine Also.intro ?_ fun _ => ?_) | (refine Hold.intro fun _ => ?_) | (refine And.intro ?_ ?_))
    refine ⟨⟨k + 1, by omega⟩, tle_chain rfl ?_, (by (try simp -dsimp only [hpush_noH, hpush_hps, hps_over]); refine hle_hps ?_; simp -dsimp [allK, ]; repeat' (first | (refine And.intro ?_ ?_) | (refine sLe.same ?_ ?_ <;> (simp; done)) | (refine sLe.clear ?_ ?_ <;> (simp; done)) | (refine sLe.drop 1 ?_ ?_ ?_ <;> (simp; done)))), by simp only; omega⟩
    simp [okAll, okv]
  by_cases hy : N * ld ≤ ln * D
  case neg =>
    have hf : hit l lim ln ld k = false := by rw [hh]; simp; omega
    rw [hf] at hc
    have hne : ¬ (k : Int) = t := by
      rcases hc with ⟨h, _⟩ | ⟨h, _⟩ | ⟨_, h⟩
      · cases h
      · cases h
      · exact fun e => h e.symm
    simp -dsimp [hk1, hkl, hx, hy, hne, ri]
    repeat' (first | omega | (simp -dsimp [E8, ri, cellp, ints, hk1, hkl, hx, hy, hne, w1, hwp, hwv, hwl, hN, hD, wN, wD, hlk]) | (refine Also.intro ?_ fun _ => ?_) | (refine Hold.intro fun _ => ?_) | (refine And.intro ?_ ?_))
    refine ⟨⟨k + 1, by omega⟩, tle_chain rfl ?_, (by (try simp -dsimp only [hpush_noH, hpush_hps, hps_over]); refine hle_hps ?_; simp -dsimp [allK, ]; repeat' (first | (refine And.intro ?_ ?_) | (refine sLe.same ?_ ?_ <;> (simp; done)) | (refine sLe.clear ?_ ?_ <;> (simp; done)) | (refine sLe.drop 1 ?_ ?_ ?_ <;> (simp; done)))), by simp only; omega⟩
    simp [okAll, okv]
  have hf : hit l lim ln ld k = true := by rw [hh]; simp; omega
  rw [hf] at hc
  rcases hc with ⟨_, h⟩ | ⟨_, h1, h2⟩ | ⟨h, _⟩
  · subst h
    have hk0 : ¬ (k : Int) < 0 := by omega
    simp -dsimp [hk1, hkl, hx, hy, hk0, ri]
    repeat' (first | omega | (simp -dsimp [E8, ri, cellp, ints, hk1, hkl, hx, hy, hk0, w1, hwp, hwv, hwl, hN, hD, wN, wD, hlk]) | (refine Also.intro ?_ fun _ => ?_) | (refine Hold.intro fun _ => ?_) | (refine And.intro ?_ ?_))
    refine ⟨⟨k + 1, by omega⟩, tle_chain rfl ?_, (by (try simp -dsimp only [hpush_noH, hpush_hps, hps_over]); refine hle_hps ?_; simp -dsimp [allK, ]; repeat' (first | (refine And.intro ?_ ?_) | (refine sLe.same ?_ ?_ <;> (simp; done)) | (refine sLe.clear ?_ ?_ <;> (simp; done)) | (refine sLe.drop 1 ?_ ?_ ?_ <;> (simp; done)))), by simp only; omega⟩
    simp [okAll, okv]
  · have hne : ¬ (k : Int) = t := by omega
    have ht0 : ¬ t < 0 := by omega
    have htk : ¬ (k : Int) ≤ t := by omega
    simp -dsimp [hk1, hkl, hx, hy, hne, ht0, htk, ri]
    repeat' (first | omega | (simp -dsimp [E8, ri, cellp, ints, hk1, hkl, hx, hy, hne, ht0, htk, w1, hwp, hwv, hwl, hN, hD, wN, wD, hlk]) | (refine Also.intro ?_ fun _ => ?_) | (refine Hold.intro fun _ => ?_) | (refine And.intro ?_ ?_))
    refine ⟨⟨k + 1, by omega⟩, tle_chain rfl ?_, (by (try simp -dsimp only [hpush_noH, hpush_hps, hps_over]); refine hle_hps ?_; simp -dsimp [allK, ]; repeat' (first | (refine And.intro ?_ ?_) | (refine sLe.same ?_ ?_ <;> (simp; done)) | (refine sLe.clear ?_ ?_ <;> (simp; done)) | (refine sLe.drop 1 ?_ ?_ ?_ <;> (simp; done)))), by simp only; omega⟩
    simp [okAll, okv]
  · cases h
theorem ok8 : FnOK Try.prog 8 (.pure trueReasonS) := pure_fn (E := E8) rfl (.cons ok15 (.cons ok19 (.cons ok23 (.cons ok18 .nil)))) (ok := []) (fn := Try.f8) (by kernel_rfl) (by kernel_rfl) (by kernel_rfl) (by kernel_rfl) rfl (fun _ _ => by simp) b8
end Go.Sx

