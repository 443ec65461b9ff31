/- HealthLinear's contract. No conditions. -/
import Derived.Test.YtjnfgejicdnjnaaSxHv
set_option linter.unusedSimpArgs false
set_option linter.unusedVariables false
set_option maxRecDepth 100000
set_option maxHeartbeats 2000000
namespace Go.Sx
open Go.Proofs

def linH (s w m : List Int) : Nat → Hp
  | 0 => hps [(1110, { base := 0, blks := [{ z := 2, els := [[.nil, V.sl 1 (m.map ri)]], ty := 52 }] }), (1109, { base := 0, blks := [{ z := 2, els := [[.nil, V.sl 1 (m.map ri)]], ty := 52 }] }), (1108, { base := 0, blks := [{ z := 2, els := [[.nil, V.sl 1 (m.map ri)]], ty := 52 }] }), (1107, { base := 0, blks := [{ z := 2, els := [[.nil, V.sl 1 (m.map ri)]], ty := 52 }] }), (1103, { base := 0, blks := [{ z := 2, els := [[V.sl 1 (s.map ri), V.sl 1 (m.map ri)]], ty := 52, fz := true }] })] noH
  | j + 1 => hps [(1230, { base := 0, blks := [{ z := 1, els := (bothTo s w (j + 1)).map ri, ty := 3 }] }), (1218, { base := 0, blks := [{ z := 1, els := (nzTo s w (j + 1)).map ri, ty := 3 }] }), (1212, { base := 0, blks := [{ z := 1, els := (negTo s (j + 1)).map ri, ty := 3 }] }), (1201, { base := 0, blks := [{ z := 1, els := (oneTo s (j + 1)).map ri, ty := 3 }] }), (1110, { base := 0, blks := [{ z := 2, els := [[.bsl 1230 0 (j + 1), V.sl 1 (m.map ri)]], ty := 52, cl := false }] }), (1109, { base := 0, blks := [{ z := 2, els := [[.bsl 1218 0 (j + 1), V.sl 1 (m.map ri)]], ty := 52, cl := false }] }), (1108, { base := 0, blks := [{ z := 2, els := [[.bsl 1212 0 (j + 1), V.sl 1 (m.map ri)]], ty := 52, cl := false }] }), (1107, { base := 0, blks := [{ z := 2, els := [[.bsl 1201 0 (j + 1), V.sl 1 (m.map ri)]], ty := 52, cl := false }] }), (1103, { base := 0, blks := [{ z := 2, els := [[V.sl 1 (s.map ri), V.sl 1 (m.map ri)]], ty := 52, fz := true }] })] noH
theorem linH_0 (s w m : List Int) : linH s w m 0 = hps [(1110, { base := 0, blks := [{ z := 2, els := [[.nil, V.sl 1 (m.map ri)]], ty := 52 }] }), (1109, { base := 0, blks := [{ z := 2, els := [[.nil, V.sl 1 (m.map ri)]], ty := 52 }] }), (1108, { base := 0, blks := [{ z := 2, els := [[.nil, V.sl 1 (m.map ri)]], ty := 52 }] }), (1107, { base := 0, blks := [{ z := 2, els := [[.nil, V.sl 1 (m.map ri)]], ty := 52 }] }), (1103, { base := 0, blks := [{ z := 2, els := [[V.sl 1 (s.map ri), V.sl 1 (m.map ri)]], ty := 52, fz := true }] })] noH := rfl
theorem linH_s (s w m : List Int) (j : Nat) : linH s w m (j + 1) = hps [(1230, { base := 0, blks := [{ z := 1, els := (bothTo s w (j + 1)).map ri, ty := 3 }] }), (1218, { base := 0, blks := [{ z := 1, els := (nzTo s w (j + 1)).map ri, ty := 3 }] }), (1212, { base := 0, blks := [{ z := 1, els := (negTo s (j + 1)).map ri, ty := 3 }] }), (1201, { base := 0, blks := [{ z := 1, els := (oneTo s (j + 1)).map ri, ty := 3 }] }), (1110, { base := 0, blks := [{ z := 2, els := [[.bsl 1230 0 (j + 1), V.sl 1 (m.map ri)]], ty := 52, cl := false }] }), (1109, { base := 0, blks := [{ z := 2, els := [[.bsl 1218 0 (j + 1), V.sl 1 (m.map ri)]], ty := 52, cl := false }] }), (1108, { base := 0, blks := [{ z := 2, els := [[.bsl 1212 0 (j + 1), V.sl 1 (m.map ri)]], ty := 52, cl := false }] }), (1107, { base := 0, blks := [{ z := 2, els := [[.bsl 1201 0 (j + 1), V.sl 1 (m.map ri)]], ty := 52, cl := false }] }), (1103, { base := 0, blks := [{ z := 2, els := [[V.sl 1 (s.map ri), V.sl 1 (m.map ri)]], ty := 52, fz := true }] })] noH := rfl
theorem linH_p (s w m : List Int) {k : Nat} (h : ¬ k = 0) : linH s w m k = hps [(1230, { base := 0, blks := [{ z := 1, els := (bothTo s w k).map ri, ty := 3 }] }), (1218, { base := 0, blks := [{ z := 1, els := (nzTo s w k).map ri, ty := 3 }] }), (1212, { base := 0, blks := [{ z := 1, els := (negTo s k).map ri, ty := 3 }] }), (1201, { base := 0, blks := [{ z := 1, els := (oneTo s k).map ri, ty := 3 }] }), (1110, { base := 0, blks := [{ z := 2, els := [[.bsl 1230 0 k, V.sl 1 (m.map ri)]], ty := 52, cl := false }] }), (1109, { base := 0, blks := [{ z := 2, els := [[.bsl 1218 0 k, V.sl 1 (m.map ri)]], ty := 52, cl := false }] }), (1108, { base := 0, blks := [{ z := 2, els := [[.bsl 1212 0 k, V.sl 1 (m.map ri)]], ty := 52, cl := false }] }), (1107, { base := 0, blks := [{ z := 2, els := [[.bsl 1201 0 k, V.sl 1 (m.map ri)]], ty := 52, cl := false }] }), (1103, { base := 0, blks := [{ z := 2, els := [[V.sl 1 (s.map ri), V.sl 1 (m.map ri)]], ty := 52, fz := true }] })] noH := by
  match k, h with
  | j + 1, _ => rfl

abbrev trueLinS : PSpec := { dom := (List Int × List Int) × List Int × Int, enc := fun d => [.agg [ints d.1.1, ints d.1.2], ints d.2.1, .int .i64 d.2.2], dec := fun l => ((((l.getD 0 .top).cs.getD 0 .top).toInts, ((l.getD 0 .top).cs.getD 1 .top).toInts), (l.getD 1 .top).toInts, (l.getD 2 .top).toInt), pre := fun d => d.1.1.length ≤ 9223372036854775807 ∧ d.1.2.length ≤ 9223372036854775807 ∧ d.2.1.length ≤ 9223372036854775807, res := fun _ => .bool true }
noncomputable abbrev E11 : Env := { P := Try.prog, fn := tbl [(34, .pure CheckS), (18, .pure worksS), (35, .pure avS)], own := [], key := 1100, nt := 268, frz := [(3, [3]), (16, [101201, 101212, 101218, 101230])] }
theorem b11 : PureBody E11 [(3, ([1001, 1004, 1007, 1010], [[0, 1, 2, 3, 4, 5, 6, 7, 8, 9, 10, 11, 12, 13, 14, 15, 16, 17, 18, 19]]))] Try.f11 trueLinS := by
  refine pb ?_
  rintro ⟨⟨s, m⟩, w, t⟩ ⟨hl1, hl2, hl3⟩
  simp only at hl1 hl2 hl3
  by_cases hv : chkOk s m = true
  case neg =>
    have hv' : chkOk s m = false := by simpa using hv
    simp -dsimp [Try.f11, E11, ints, hl1, hl2, hl3, hv']
    repeat' (first | omega | (simp -dsimp [E11, ri, cellp, ints, hl1, hl2, hl3, hv']) | (refine Also.intro ?_ fun _ => ?_) | (refine Hold.intro fun _ => ?_) | (refine And.intro ?_ ?_))
  by_cases ht1 : t < 1
  case pos =>
    simp -dsimp [Try.f11, E11, ints, hl1, hl2, hl3, hv, ht1]
    repeat' (first | omega | (simp -dsimp [E11, ri, cellp, ints, hl1, hl2, hl3, hv, ht1]) | (refine Also.intro ?_ fun _ => ?_) | (refine Hold.intro fun _ => ?_) | (refine And.intro ?_ ?_))
  by_cases ht2 : 24 < t
  case pos =>
    simp -dsimp [Try.f11, E11, ints, hl1, hl2, hl3, hv, ht1, ht2]
    repeat' (first | omega | (simp -dsimp [E11, ri, cellp, ints, hl1, hl2, hl3, hv, ht1, ht2]) | (refine Also.intro ?_ fun _ => ?_) | (refine Hold.intro fun _ => ?_) | (refine And.intro ?_ ?_))
  obtain ⟨n, rfl⟩ := Int.eq_ofNat_of_zero_le (show 0 ≤ t by omega)
  have n1 : 1 ≤ n := by omega
  have n2 : n ≤ 24 := by omega
  obtain ⟨A, B, C, D, E, c, eA, eB, eC, eD, eE, hc, lA, lB, lC, lD, lE, jB, jC, jE, bA, bD⟩ := linear_facts w hv n1 n2
  obtain ⟨c1, c2, c3⟩ := chk_len hv
  obtain ⟨a0, b0, q0, r0, -, -, hab0, hbs0, -⟩ := mark_facts hv (mark := 0) (k := 0) (n := 1) (by omega) (by omega) (by omega)
  have hs0 : 0 < s.length := by omega
  have hs1 : ¬ s = [] := by intro e; rw [e] at hs0; simp at hs0
  simp -dsimp [Try.f11, E11, ints, hl1, hl2, hl3, hv, ht1, ht2]
  repeat' (first | omega | (simp -dsimp [E11, ri, cellp, ints, hl1, hl2, hl3, hv, ht1, ht2]) | (refine Also.intro ?_ fun _ => ?_) | (refine Hold.intro fun _ => ?_) | (refine And.intro ?_ ?_))
  refine awp_loop [53, 54, 55, 56, 57, 12, 60, 61, 62, 63, 64, 65, 66, 67, 68, 69, 70, 71, 72, 73, 74, 75, 76, 77, 78, 79, 80, 81, 82, 83, 84, 85, 86, 87, 88, 89, 90, 91, 92, 93, 94, 95, 96, 97, 98, 99, 100, 101, 102, 103, 104, 105, 106, 107, 108, 109, 110, 111, 112, 113, 114, 115, 116, 117, 118, 119, 120, 121, 122, 123, 124, 125, 126, 127, 128, 129, 130, 131, 58, 59, 11] (fun k : Fin (s.length + 1) => [(11, (true, .int .i64 (k.1 : Nat)))]) (fun k => linH s w m k.1) (fun k => s.length - k.1) ⟨0, by omega⟩ ?_ ?_ ?_
  · simp [okAll, okv]
  · rw [linH_0]; exact (by (try simp -dsimp only [hpush_noH, hpush_hps, hps_over]); refine hle_hps ?_; simp -dsimp [allK, ]; repeat' (first | (refine And.intro ?_ ?_) | (refine sLe.same ?_ ?_ <;> (simp; done)) | (refine sLe.clear ?_ ?_ <;> (simp; done)) | (refine sLe.drop 1 ?_ ?_ ?_ <;> (simp; done))))
  rintro ⟨k, hk⟩
  simp only
  by_cases hk1 : k < s.length
  case neg =>
    have hke : k = s.length := by omega
    subst hke
    rw [linH_p s w m (by omega)]
    have hlo : (oneTo s s.length).length = s.length := by simp [oneTo]
    have hln : (negTo s s.length).length = s.length := by simp [negTo]
    have hlz : (nzTo s w s.length).length = s.length := by simp [nzTo]
    have hlb : (bothTo s w s.length).length = s.length := by simp [bothTo]
    have wlen : IntKind.wrap .i64 ((m.length : Int) - 1) = (m.length - 1 : Nat) := by rw [wrap_id (by omega) (by omega)]; omega
    have wnm0 : (n : Int) * (m.length - 1 : Nat) ≤ 24 * 8 := Int.mul_le_mul (by omega) (by omega) (by omega) (by omega)
    have wnm1 : 0 ≤ (n : Int) * (m.length - 1 : Nat) := Int.mul_nonneg (by omega) (by omega)
    have wnm : IntKind.wrap .i64 ((n : Int) * (m.length - 1 : Nat)) = c := by rw [wrap_id (by omega) (by omega)]; exact hc.symm
    have sb := samp hv 0
    rw [getD_at hs0] at sb jB
    rw [← hc] at wnm0 wnm1
    clear hc
    simp -dsimp
    repeat' (first | omega | (simp -dsimp [E11, ri, cellp, ints, hl1, hl2, hl3, hlo, hln, hlz, hlb, eA, eB, eC, eD, eE, lA, lB, lC, lD, lE, wlen, wnm]) | (refine Also.intro ?_ fun _ => ?_) | (refine Hold.intro fun _ => ?_) | (refine And.intro ?_ ?_))
    refine awp_loop [223, 224, 225, 228, 229, 230, 231, 232, 233, 234, 235, 236, 237, 238, 239, 240, 241, 242, 243, 244, 245, 246, 247, 248, 249, 250, 251, 252, 253, 254, 255, 256, 257, 258, 259, 260, 261, 262, 263, 264, 265, 266, 6, 226, 227, 28] (fun i : Fin (n + 1) => [(28, (true, .int .i64 (i.1 : Nat)))]) (fun _ => hps [(1230, { base := 0, blks := [{ z := 1, els := (bothTo s w s.length).map ri, ty := 3, fz := true }] }), (1218, { base := 0, blks := [{ z := 1, els := (nzTo s w s.length).map ri, ty := 3, fz := true }] }), (1212, { base := 0, blks := [{ z := 1, els := (negTo s s.length).map ri, ty := 3, fz := true }] }), (1201, { base := 0, blks := [{ z := 1, els := (oneTo s s.length).map ri, ty := 3, fz := true }] }), (1110, { base := 0, blks := [{ z := 2, els := [[.bsl 1230 0 s.length, V.sl 1 (m.map ri)]], ty := 52, cl := false }] }), (1109, { base := 0, blks := [{ z := 2, els := [[.bsl 1218 0 s.length, V.sl 1 (m.map ri)]], ty := 52, cl := false }] }), (1108, { base := 0, blks := [{ z := 2, els := [[.bsl 1212 0 s.length, V.sl 1 (m.map ri)]], ty := 52, cl := false }] }), (1107, { base := 0, blks := [{ z := 2, els := [[.bsl 1201 0 s.length, V.sl 1 (m.map ri)]], ty := 52, cl := false }] }), (1103, { base := 0, blks := [{ z := 2, els := [[V.sl 1 (s.map ri), V.sl 1 (m.map ri)]], ty := 52, fz := true }] })] noH) (fun i => n - i.1) ⟨0, by omega⟩ ?_ ?_ ?_
    · simp [okAll, okv]
    · exact (by (try simp -dsimp only [hpush_noH, hpush_hps, hps_over]); refine hle_hps ?_; simp -dsimp [allK, hlo, hln, hlz, hlb]; repeat' (first | (refine And.intro ?_ ?_) | (refine sLe.same ?_ ?_ <;> (simp; done)) | (refine sLe.clear ?_ ?_ <;> (simp; done)) | (refine sLe.drop 1 ?_ ?_ ?_ <;> (simp; done))))
    rintro ⟨i, hi⟩
    simp only
    by_cases hi1 : i < n
    case neg =>
      have hie : ¬ (i : Int) < n := by omega
      simp -dsimp [hie]
      repeat' (first | omega | (simp -dsimp [E11, ri, cellp, ints, hie]) | (refine Also.intro ?_ fun _ => ?_) | (refine Hold.intro fun _ => ?_) | (refine And.intro ?_ ?_))
    have hin : (i : Int) < n := by omega
    have iA : i < A.length := by omega
    have iB : i < B.length := by omega
    have iC : i < C.length := by omega
    have iD : i < D.length := by omega
    have iE : i < E.length := by omega
    have fB := jB i hi1
    have fC := jC i hi1
    have fE := jE i hi1
    have gA := bA i
    have gD := bD i
    rw [getD_at iB] at fB
    rw [getD_at iC, getD_at iA] at fC
    rw [getD_at iE, getD_at iA, getD_at iD] at fE
    rw [getD_at iA] at gA
    rw [getD_at iD] at gD
    have w1 : IntKind.wrap .i64 ((i : Int) + 1) = (i + 1 : Nat) := wrap_id (by omega) (by omega)
    have wn : IntKind.wrap .i64 (-A[i]) = -A[i] := wrap_id (by omega) (by omega)
    have wa : IntKind.wrap .i64 (A[i] + D[i]) = A[i] + D[i] := wrap_id (by omega) (by omega)
    have m1 : s[0] * c ≤ 100 * c := Int.mul_le_mul_of_nonneg_right sb.2 wnm1
    have m2 : -100 * c ≤ s[0] * c := Int.mul_le_mul_of_nonneg_right sb.1 wnm1
    have wb : IntKind.wrap .i64 (s[0] * c) = s[0] * c := wrap_id (by omega) (by omega)
    simp -dsimp [hin, ri]
    repeat' (first | omega | (simp -dsimp [E11, ri, cellp, ints, hin, hi1, iA, iB, iC, iD, iE, fB, fC, fE, w1, wn, wa, wb, hs0, hs1]) | (refine Also.intro ?_ fun _ => ?_) | (refine Hold.intro fun _ => ?_) | (refine And.intro ?_ ?_))
    refine ⟨⟨i + 1, by omega⟩, tle_chain rfl ?_, HLe.refl _, by simp only; omega⟩
    simp [okAll, okv]
  by_cases hk0 : k = 0
  case pos =>
    subst hk0
    rw [linH_0]
    have hkl : ((0 : Int) < s.length) := by omega
    have w1 : IntKind.wrap .i64 ((0 : Int) + 1) = (0 + 1 : Nat) := wrap_id (by omega) (by omega)
    have hgx : s.getD 0 0 = s[0] := getD_at hk1
    have hg0 : s.getD 0 0 = s[0] := getD_at hs0
    have sb := samp hv 0
    have hon := oneTo_succ s 0
    have hne := negTo_succ s 0
    have hnz := nzTo_succ s w 0
    have hbo := bothTo_succ s w 0
    have hlo : (oneTo s 0).length = 0 := by simp [oneTo]
    have hln : (negTo s 0).length = 0 := by simp [negTo]
    have hlz : (nzTo s w 0).length = 0 := by simp [nzTo]
    have hlb : (bothTo s w 0).length = 0 := by simp [bothTo]
    have hb8 : (0 + 1) * 8 ≤ 140737488355328 := by omega
    rw [hg0] at hon
    rw [hgx] at hne hbo sb
    generalize hx : s[0] = x at *
    have wn : IntKind.wrap .i64 (-x) = -x := wrap_id (by omega) (by omega)
    have wx : IntKind.wrap .i64 x = x := wrap_id (by omega) (by omega)
    have hx1 : ¬ x < -100 := by omega
    have hx2 : ¬ 100 < x := by omega
    have wone : IntKind.wrap .i64 1 = 1 := wrap_id (by omega) (by omega)
    have hz1 : oneTo s 0 = [] ∧ negTo s 0 = [] ∧ nzTo s w 0 = [] ∧ bothTo s w 0 = [] := ⟨rfl, rfl, rfl, rfl⟩
    by_cases hkw : 0 < w.length
    case neg =>
      have hkw' : ¬ (0 : Int) < w.length := by omega
      have hgw : w.getD 0 0 = 0 := getD_out (by omega)
      have hnv : nzAt s w 0 = 0 := by rw [nzAt, hgw, hgx]; (first | rw [if_pos (by omega)] | (rw [if_neg (by omega)]) | (split <;> omega))
      rw [hnv] at hnz hbo
      simp -dsimp [hk1, hkl, hs0, hs1, hz1, wone, hx, wn, wx, hx1, hx2, w1, hkw, hkw', ri]
      repeat' (first | omega | (simp -dsimp [E11, ri, cellp, ints, hk1, hkl, hs0, hs1, hz1, wone, hx, wn, wx, hx1, hx2, w1, hkw, hkw']) | (refine Also.intro ?_ fun _ => ?_) | (refine Hold.intro fun _ => ?_) | (refine And.intro ?_ ?_))
      refine ⟨⟨1, by omega⟩, tle_chain rfl ?_, ?_, by simp only; omega⟩
      · simp [okAll, okv]
      · rw [show linH s w m 1 = linH s w m (0 + 1) from rfl, linH_s]; exact (by (try simp -dsimp only [hpush_noH, hpush_hps, hps_over]); refine hle_hps ?_; simp -dsimp [allK, hon, hne, hnz, hbo, hlo, hln, hlz, hlb, ri, hz1]; repeat' (first | (refine And.intro ?_ ?_) | (refine sLe.same ?_ ?_ <;> (simp; done)) | (refine sLe.clear ?_ ?_ <;> (simp; done)) | (refine sLe.drop 1 ?_ ?_ ?_ <;> (simp; done))))
    have hkw' : (0 : Int) < w.length := by omega
    have hgw : w.getD 0 0 = w[0] := getD_at hkw
    have hwn : ¬ w = [] := by intro e; rw [e] at hkw; simp at hkw
    generalize hwk : w[0] = v at *
    by_cases h1 : v < -100
    case pos =>
      have hnv : nzAt s w 0 = 0 := by rw [nzAt, hgw, hgx]; (first | rw [if_pos (by omega)] | (rw [if_neg (by omega)]) | (split <;> omega))
      rw [hnv] at hnz hbo
      simp -dsimp [hk1, hkl, hs0, hs1, hz1, wone, hx, wn, wx, hx1, hx2, w1, hkw, hkw', hwn, hwk, h1, ri]
      repeat' (first | omega | (simp -dsimp [E11, ri, cellp, ints, hk1, hkl, hs0, hs1, hz1, wone, hx, wn, wx, hx1, hx2, w1, hkw, hkw', hwn, hwk, h1]) | (refine Also.intro ?_ fun _ => ?_) | (refine Hold.intro fun _ => ?_) | (refine And.intro ?_ ?_))
      refine ⟨⟨1, by omega⟩, tle_chain rfl ?_, ?_, by simp only; omega⟩
      · simp [okAll, okv]
      · rw [show linH s w m 1 = linH s w m (0 + 1) from rfl, linH_s]; exact (by (try simp -dsimp only [hpush_noH, hpush_hps, hps_over]); refine hle_hps ?_; simp -dsimp [allK, hon, hne, hnz, hbo, hlo, hln, hlz, hlb, ri, hz1]; repeat' (first | (refine And.intro ?_ ?_) | (refine sLe.same ?_ ?_ <;> (simp; done)) | (refine sLe.clear ?_ ?_ <;> (simp; done)) | (refine sLe.drop 1 ?_ ?_ ?_ <;> (simp; done))))
    by_cases h2 : 100 < v
    case pos =>
      have hnv : nzAt s w 0 = 0 := by rw [nzAt, hgw, hgx]; (first | rw [if_pos (by omega)] | (rw [if_neg (by omega)]) | (split <;> omega))
      rw [hnv] at hnz hbo
      simp -dsimp [hk1, hkl, hs0, hs1, hz1, wone, hx, wn, wx, hx1, hx2, w1, hkw, hkw', hwn, hwk, h1, h2, ri]
      repeat' (first | omega | (simp -dsimp [E11, ri, cellp, ints, hk1, hkl, hs0, hs1, hz1, wone, hx, wn, wx, hx1, hx2, w1, hkw, hkw', hwn, hwk, h1, h2]) | (refine Also.intro ?_ fun _ => ?_) | (refine Hold.intro fun _ => ?_) | (refine And.intro ?_ ?_))
      refine ⟨⟨1, by omega⟩, tle_chain rfl ?_, ?_, by simp only; omega⟩
      · simp [okAll, okv]
      · rw [show linH s w m 1 = linH s w m (0 + 1) from rfl, linH_s]; exact (by (try simp -dsimp only [hpush_noH, hpush_hps, hps_over]); refine hle_hps ?_; simp -dsimp [allK, hon, hne, hnz, hbo, hlo, hln, hlz, hlb, ri, hz1]; repeat' (first | (refine And.intro ?_ ?_) | (refine sLe.same ?_ ?_ <;> (simp; done)) | (refine sLe.clear ?_ ?_ <;> (simp; done)) | (refine sLe.drop 1 ?_ ?_ ?_ <;> (simp; done))))
    have wv : IntKind.wrap .i64 (x + v) = x + v := wrap_id (by omega) (by omega)
    by_cases h3 : x + v < -100
    case pos =>
      have hnv : nzAt s w 0 = 0 := by rw [nzAt, hgw, hgx]; (first | rw [if_pos (by omega)] | (rw [if_neg (by omega)]) | (split <;> omega))
      rw [hnv] at hnz hbo
      simp -dsimp [hk1, hkl, hs0, hs1, hz1, wone, hx, wn, wx, hx1, hx2, w1, hkw, hkw', hwn, hwk, h1, h2, h3, wv, ri]
      repeat' (first | omega | (simp -dsimp [E11, ri, cellp, ints, hk1, hkl, hs0, hs1, hz1, wone, hx, wn, wx, hx1, hx2, w1, hkw, hkw', hwn, hwk, h1, h2, h3, wv]) | (refine Also.intro ?_ fun _ => ?_) | (refine Hold.intro fun _ => ?_) | (refine And.intro ?_ ?_))
      refine ⟨⟨1, by omega⟩, tle_chain rfl ?_, ?_, by simp only; omega⟩
      · simp [okAll, okv]
      · rw [show linH s w m 1 = linH s w m (0 + 1) from rfl, linH_s]; exact (by (try simp -dsimp only [hpush_noH, hpush_hps, hps_over]); refine hle_hps ?_; simp -dsimp [allK, hon, hne, hnz, hbo, hlo, hln, hlz, hlb, ri, hz1]; repeat' (first | (refine And.intro ?_ ?_) | (refine sLe.same ?_ ?_ <;> (simp; done)) | (refine sLe.clear ?_ ?_ <;> (simp; done)) | (refine sLe.drop 1 ?_ ?_ ?_ <;> (simp; done))))
    by_cases h4 : 100 < x + v
    case pos =>
      have hnv : nzAt s w 0 = 0 := by rw [nzAt, hgw, hgx]; (first | rw [if_pos (by omega)] | (rw [if_neg (by omega)]) | (split <;> omega))
      rw [hnv] at hnz hbo
      simp -dsimp [hk1, hkl, hs0, hs1, hz1, wone, hx, wn, wx, hx1, hx2, w1, hkw, hkw', hwn, hwk, h1, h2, h3, h4, wv, ri]
      repeat' (first | omega | (simp -dsimp [E11, ri, cellp, ints, hk1, hkl, hs0, hs1, hz1, wone, hx, wn, wx, hx1, hx2, w1, hkw, hkw', hwn, hwk, h1, h2, h3, h4, wv]) | (refine Also.intro ?_ fun _ => ?_) | (refine Hold.intro fun _ => ?_) | (refine And.intro ?_ ?_))
      refine ⟨⟨1, by omega⟩, tle_chain rfl ?_, ?_, by simp only; omega⟩
      · simp [okAll, okv]
      · rw [show linH s w m 1 = linH s w m (0 + 1) from rfl, linH_s]; exact (by (try simp -dsimp only [hpush_noH, hpush_hps, hps_over]); refine hle_hps ?_; simp -dsimp [allK, hon, hne, hnz, hbo, hlo, hln, hlz, hlb, ri, hz1]; repeat' (first | (refine And.intro ?_ ?_) | (refine sLe.same ?_ ?_ <;> (simp; done)) | (refine sLe.clear ?_ ?_ <;> (simp; done)) | (refine sLe.drop 1 ?_ ?_ ?_ <;> (simp; done))))
    by_cases h5 : True
    case pos =>
      have hnv : nzAt s w 0 = v := by rw [nzAt, hgw, hgx]; (first | rw [if_pos (by omega)] | (rw [if_neg (by omega)]) | (split <;> omega))
      rw [hnv] at hnz hbo
      simp -dsimp [hk1, hkl, hs0, hs1, hz1, wone, hx, wn, wx, hx1, hx2, w1, hkw, hkw', hwn, hwk, h1, h2, h3, h4, wv, ri]
      repeat' (first | omega | (simp -dsimp [E11, ri, cellp, ints, hk1, hkl, hs0, hs1, hz1, wone, hx, wn, wx, hx1, hx2, w1, hkw, hkw', hwn, hwk, h1, h2, h3, h4, wv]) | (refine Also.intro ?_ fun _ => ?_) | (refine Hold.intro fun _ => ?_) | (refine And.intro ?_ ?_))
      refine ⟨⟨1, by omega⟩, tle_chain rfl ?_, ?_, by simp only; omega⟩
      · simp [okAll, okv]
      · rw [show linH s w m 1 = linH s w m (0 + 1) from rfl, linH_s]; exact (by (try simp -dsimp only [hpush_noH, hpush_hps, hps_over]); refine hle_hps ?_; simp -dsimp [allK, hon, hne, hnz, hbo, hlo, hln, hlz, hlb, ri, hz1]; repeat' (first | (refine And.intro ?_ ?_) | (refine sLe.same ?_ ?_ <;> (simp; done)) | (refine sLe.clear ?_ ?_ <;> (simp; done)) | (refine sLe.drop 1 ?_ ?_ ?_ <;> (simp; done))))
    exact absurd trivial h5
  rw [linH_p s w m hk0]
  have hkl : ((k : Int) < s.length) := by omega
  have w1 : IntKind.wrap .i64 ((k : Int) + 1) = (k + 1 : Nat) := wrap_id (by omega) (by omega)
  have hgx : s.getD k 0 = s[k] := getD_at hk1
  have hg0 : s.getD 0 0 = s[0] := getD_at hs0
  have sb := samp hv k
  have hon := oneTo_succ s k
  have hne := negTo_succ s k
  have hnz := nzTo_succ s w k
  have hbo := bothTo_succ s w k
  have hlo : (oneTo s k).length = k := by simp [oneTo]
  have hln : (negTo s k).length = k := by simp [negTo]
  have hlz : (nzTo s w k).length = k := by simp [nzTo]
  have hlb : (bothTo s w k).length = k := by simp [bothTo]
  have hb8 : (k + 1) * 8 ≤ 140737488355328 := by omega
  rw [hg0] at hon
  rw [hgx] at hne hbo sb
  generalize hx : s[k] = x at *
  generalize hx0 : s[0] = x0 at *
  have wn : IntKind.wrap .i64 (-x) = -x := wrap_id (by omega) (by omega)
  have wx : IntKind.wrap .i64 x = x := wrap_id (by omega) (by omega)
  have hx1 : ¬ x < -100 := by omega
  have hx2 : ¬ 100 < x := by omega
  by_cases hkw : k < w.length
  case neg =>
    have hkw' : ¬ (k : Int) < w.length := by omega
    have hgw : w.getD k 0 = 0 := getD_out (by omega)
    have hnv : nzAt s w k = 0 := by rw [nzAt, hgw, hgx]; (first | rw [if_pos (by omega)] | (rw [if_neg (by omega)]) | (split <;> omega))
    rw [hnv] at hnz hbo
    simp -dsimp [hk1, hkl, hs0, hs1, hk0, hlo, hln, hlz, hlb, hb8, hx, hx0, wn, wx, hx1, hx2, w1, hkw, hkw', ri]
    repeat' (first | omega | (simp -dsimp [E11, ri, cellp, ints, hk1, hkl, hs0, hs1, hk0, hlo, hln, hlz, hlb, hb8, hx, hx0, wn, wx, hx1, hx2, w1, hkw, hkw']) | (refine Also.intro ?_ fun _ => ?_) | (refine Hold.intro fun _ => ?_) | (refine And.intro ?_ ?_))
    refine ⟨⟨k + 1, by omega⟩, tle_chain rfl ?_, ?_, by simp only; omega⟩
    · simp [okAll, okv]
    · rw [linH_s]; exact (by (try simp -dsimp only [hpush_noH, hpush_hps, hps_over]); refine hle_hps ?_; simp -dsimp [allK, hon, hne, hnz, hbo, hlo, hln, hlz, hlb, ri]; repeat' (first | (refine And.intro ?_ ?_) | (refine sLe.same ?_ ?_ <;> (simp; done)) | (refine sLe.clear ?_ ?_ <;> (simp; done)) | (refine sLe.drop 1 ?_ ?_ ?_ <;> (simp; done))))
  have hkw' : (k : Int) < w.length := by omega
  have hgw : w.getD k 0 = w[k] := getD_at hkw
  have hwn : ¬ w = [] := by intro e; rw [e] at hkw; simp at hkw
  generalize hwk : w[k] = v at *
  by_cases h1 : v < -100
  case pos =>
    have hnv : nzAt s w k = 0 := by rw [nzAt, hgw, hgx]; (first | rw [if_pos (by omega)] | (rw [if_neg (by omega)]) | (split <;> omega))
    rw [hnv] at hnz hbo
    simp -dsimp [hk1, hkl, hs0, hs1, hk0, hlo, hln, hlz, hlb, hb8, hx, hx0, wn, wx, hx1, hx2, w1, hkw, hkw', hwn, hwk, h1, ri]
    repeat' (first | omega | (simp -dsimp [E11, ri, cellp, ints, hk1, hkl, hs0, hs1, hk0, hlo, hln, hlz, hlb, hb8, hx, hx0, wn, wx, hx1, hx2, w1, hkw, hkw', hwn, hwk, h1]) | (refine Also.intro ?_ fun _ => ?_) | (refine Hold.intro fun _ => ?_) | (refine And.intro ?_ ?_))
    refine ⟨⟨k + 1, by omega⟩, tle_chain rfl ?_, ?_, by simp only; omega⟩
    · simp [okAll, okv]
    · rw [linH_s]; exact (by (try simp -dsimp only [hpush_noH, hpush_hps, hps_over]); refine hle_hps ?_; simp -dsimp [allK, hon, hne, hnz, hbo, hlo, hln, hlz, hlb, ri]; repeat' (first | (refine And.intro ?_ ?_) | (refine sLe.same ?_ ?_ <;> (simp; done)) | (refine sLe.clear ?_ ?_ <;> (simp; done)) | (refine sLe.drop 1 ?_ ?_ ?_ <;> (simp; done))))
  by_cases h2 : 100 < v
  case pos =>
    have hnv : nzAt s w k = 0 := by rw [nzAt, hgw, hgx]; (first | rw [if_pos (by omega)] | (rw [if_neg (by omega)]) | (split <;> omega))
    rw [hnv] at hnz hbo
    simp -dsimp [hk1, hkl, hs0, hs1, hk0, hlo, hln, hlz, hlb, hb8, hx, hx0, wn, wx, hx1, hx2, w1, hkw, hkw', hwn, hwk, h1, h2, ri]
    repeat' (first | omega | (simp -dsimp [E11, ri, cellp, ints, hk1, hkl, hs0, hs1, hk0, hlo, hln, hlz, hlb, hb8, hx, hx0, wn, wx, hx1, hx2, w1, hkw, hkw', hwn, hwk, h1, h2]) | (refine Also.intro ?_ fun _ => ?_) | (refine Hold.intro fun _ => ?_) | (refine And.intro ?_ ?_))
    refine ⟨⟨k + 1, by omega⟩, tle_chain rfl ?_, ?_, by simp only; omega⟩
    · simp [okAll, okv]
    · rw [linH_s]; exact (by (try simp -dsimp only [hpush_noH, hpush_hps, hps_over]); refine hle_hps ?_; simp -dsimp [allK, hon, hne, hnz, hbo, hlo, hln, hlz, hlb, ri]; repeat' (first | (refine And.intro ?_ ?_) | (refine sLe.same ?_ ?_ <;> (simp; done)) | (refine sLe.clear ?_ ?_ <;> (simp; done)) | (refine sLe.drop 1 ?_ ?_ ?_ <;> (simp; done))))
  have wv : IntKind.wrap .i64 (x + v) = x + v := wrap_id (by omega) (by omega)
  by_cases h3 : x + v < -100
  case pos =>
    have hnv : nzAt s w k = 0 := by rw [nzAt, hgw, hgx]; (first | rw [if_pos (by omega)] | (rw [if_neg (by omega)]) | (split <;> omega))
    rw [hnv] at hnz hbo
    simp -dsimp [hk1, hkl, hs0, hs1, hk0, hlo, hln, hlz, hlb, hb8, hx, hx0, wn, wx, hx1, hx2, w1, hkw, hkw', hwn, hwk, h1, h2, h3, wv, ri]
    repeat' (first | omega | (simp -dsimp [E11, ri, cellp, ints, hk1, hkl, hs0, hs1, hk0, hlo, hln, hlz, hlb, hb8, hx, hx0, wn, wx, hx1, hx2, w1, hkw, hkw', hwn, hwk, h1, h2, h3, wv]) | (refine Also.intro ?_ fun _ => ?_) | (refine Hold.intro fun _ => ?_) | (refine And.intro ?_ ?_))
    refine ⟨⟨k + 1, by omega⟩, tle_chain rfl ?_, ?_, by simp only; omega⟩
    · simp [okAll, okv]
    · rw [linH_s]; exact (by (try simp -dsimp only [hpush_noH, hpush_hps, hps_over]); refine hle_hps ?_; simp -dsimp [allK, hon, hne, hnz, hbo, hlo, hln, hlz, hlb, ri]; repeat' (first | (refine And.intro ?_ ?_) | (refine sLe.same ?_ ?_ <;> (simp; done)) | (refine sLe.clear ?_ ?_ <;> (simp; done)) | (refine sLe.drop 1 ?_ ?_ ?_ <;> (simp; done))))
  by_cases h4 : 100 < x + v
  case pos =>
    have hnv : nzAt s w k = 0 := by rw [nzAt, hgw, hgx]; (first | rw [if_pos (by omega)] | (rw [if_neg (by omega)]) | (split <;> omega))
    rw [hnv] at hnz hbo
    simp -dsimp [hk1, hkl, hs0, hs1, hk0, hlo, hln, hlz, hlb, hb8, hx, hx0, wn, wx, hx1, hx2, w1, hkw, hkw', hwn, hwk, h1, h2, h3, h4, wv, ri]
    repeat' (first | omega | (simp -dsimp [E11, ri, cellp, ints, hk1, hkl, hs0, hs1, hk0, hlo, hln, hlz, hlb, hb8, hx, hx0, wn, wx, hx1, hx2, w1, hkw, hkw', hwn, hwk, h1, h2, h3, h4, wv]) | (refine Also.intro ?_ fun _ => ?_) | (refine Hold.intro fun _ => ?_) | (refine And.intro ?_ ?_))
    refine ⟨⟨k + 1, by omega⟩, tle_chain rfl ?_, ?_, by simp only; omega⟩
    · simp [okAll, okv]
    · rw [linH_s]; exact (by (try simp -dsimp only [hpush_noH, hpush_hps, hps_over]); refine hle_hps ?_; simp -dsimp [allK, hon, hne, hnz, hbo, hlo, hln, hlz, hlb, ri]; repeat' (first | (refine And.intro ?_ ?_) | (refine sLe.same ?_ ?_ <;> (simp; done)) | (refine sLe.clear ?_ ?_ <;> (simp; done)) | (refine sLe.drop 1 ?_ ?_ ?_ <;> (simp; done))))
  by_cases h5 : True
  case pos =>
    have hnv : nzAt s w k = v := by rw [nzAt, hgw, hgx]; (first | rw [if_pos (by omega)] | (rw [if_neg (by omega)]) | (split <;> omega))
    rw [hnv] at hnz hbo
    simp -dsimp [hk1, hkl, hs0, hs1, hk0, hlo, hln, hlz, hlb, hb8, hx, hx0, wn, wx, hx1, hx2, w1, hkw, hkw', hwn, hwk, h1, h2, h3, h4, wv, ri]
    repeat' (first | omega | (simp -dsimp [E11, ri, cellp, ints, hk1, hkl, hs0, hs1, hk0, hlo, hln, hlz, hlb, hb8, hx, hx0, wn, wx, hx1, hx2, w1, hkw, hkw', hwn, hwk, h1, h2, h3, h4, wv]) | (refine Also.intro ?_ fun _ => ?_) | (refine Hold.intro fun _ => ?_) | (refine And.intro ?_ ?_))
    refine ⟨⟨k + 1, by omega⟩, tle_chain rfl ?_, ?_, by simp only; omega⟩
    · simp [okAll, okv]
    · rw [linH_s]; exact (by (try simp -dsimp only [hpush_noH, hpush_hps, hps_over]); refine hle_hps ?_; simp -dsimp [allK, hon, hne, hnz, hbo, hlo, hln, hlz, hlb, ri]; repeat' (first | (refine And.intro ?_ ?_) | (refine sLe.same ?_ ?_ <;> (simp; done)) | (refine sLe.clear ?_ ?_ <;> (simp; done)) | (refine sLe.drop 1 ?_ ?_ ?_ <;> (simp; done))))
  exact absurd trivial h5

theorem ok11 : FnOK Try.prog 11 (.pure trueLinS) := pure_fn (E := E11) rfl (.cons ok34 (.cons ok18 (.cons ok35 .nil))) (ok := [(3, ([1001, 1004, 1007, 1010], [[0, 1, 2, 3, 4, 5, 6, 7, 8, 9, 10, 11, 12, 13, 14, 15, 16, 17, 18, 19]]))]) (fn := Try.f11) (by kernel_rfl) (by kernel_rfl) (by kernel_rfl) (by kernel_rfl) rfl (fun _ _ => by simp) b11
end Go.Sx


