/- A part of a proof; no conditions. -/
import Derived.Test.YtjnfgejicdnjnaaSxHp
set_option linter.unusedSimpArgs false
set_option linter.unusedVariables false
set_option maxRecDepth 100000
set_option maxHeartbeats 1000000
namespace Go.Sx
open Go.Proofs

noncomputable abbrev E35 : Env := { P := Try.prog, fn := tbl [(33, .pure CheckS), (56, .pure withinS)], own := [], key := 3500, nt := 105 }
theorem b35 : PureBody E35 [] Try.f35 avS := by
  refine pb ?_
  rintro ⟨s, m, t⟩ ⟨p1, p2⟩
  simp only at p1 p2
  by_cases hv : chkOk s m = true
  case neg =>
    have hv' : chkOk s m = false := by simpa using hv
    simp -dsimp [Try.f35, E35, ints, p1, p2, hv', avR]
    repeat' (first | omega | (simp -dsimp [E35, ri, cellp, ints, p1, p2, hv', avR]) | (refine Also.intro ?_ fun _ => ?_) | (refine Hold.intro fun _ => ?_) | (refine And.intro ?_ ?_))
  by_cases ht : withinB t 1 24 = true
  case neg =>
    have ht' : withinB t 1 24 = false := by simpa using ht
    simp -dsimp [Try.f35, E35, ints, p1, p2, hv, ht', avR]
    repeat' (first | omega | (simp -dsimp [E35, ri, cellp, ints, p1, p2, hv, ht', avR]) | (refine Also.intro ?_ fun _ => ?_) | (refine Hold.intro fun _ => ?_) | (refine And.intro ?_ ?_))
  have htb : 1 ≤ t ∧ t ≤ 24 := by simpa [withinB] using ht
  obtain ⟨n, rfl⟩ := Int.eq_ofNat_of_zero_le (show 0 ≤ t by omega)
  obtain ⟨c1, c2, c3⟩ := chk_len hv
  have hm2 : 2 ≤ m.length ∧ m.length ≤ 9 := ⟨c2, c3⟩
  have wm : IntKind.wrap .i64 ((m.length : Int) - 1) = (m.length - 1 : Nat) := by rw [wrap_id (by omega) (by omega)]; omega
  have wnm0 : (n : Int) * (m.length - 1 : Nat) ≤ 24 * 8 := Int.mul_le_mul (by omega) (by omega) (by omega) (by omega)
  have wnm1 : 0 ≤ (n : Int) * (m.length - 1 : Nat) := Int.mul_nonneg (by omega) (by omega)
  have wnm : IntKind.wrap .i64 ((n : Int) * (m.length - 1 : Nat)) = (n : Int) * (m.length - 1 : Nat) := wrap_id (by omega) (by omega)
  have hb8 : (n : Int) * 8 ≤ 140737488355328 := by omega
  have hb9 : (n : Int) ≤ 9223372036854775807 := by omega
  have har : avR s m n = (avTo s m n (m.length - 1), (n : Int) * (m.length - 1 : Nat), 0) := by simp [avR, hv, ht]
  simp -dsimp [Try.f35, E35, ints, p1, p2, hv, ht]
  repeat' (first | omega | (simp -dsimp [E35, ri, cellp, ints, p1, p2, hv, ht, wm, hb8, hb9]) | (refine Also.intro ?_ fun _ => ?_) | (refine Hold.intro fun _ => ?_) | (refine And.intro ?_ ?_))
  refine awp_loop [29, 30, 8, 31, 32, 33, 34, 35, 36, 37, 38, 39, 40, 41, 9, 10, 42, 43, 44, 45, 46, 11, 47, 48, 49, 50, 51, 52, 53, 54, 55, 56, 57, 58, 59, 60, 12, 13, 61, 62, 63, 64, 65, 66, 67, 68, 69, 70, 71, 72, 73, 74, 75, 76, 77, 78, 79, 80, 81, 82, 83, 84, 85, 86, 87, 88, 89, 90, 91, 92, 93, 94, 95, 96, 97, 28] (fun mk : Fin m.length => [(28, (true, .int .i64 (mk.1 : Nat)))]) (fun mk => hps [(3523, { base := 0, blks := [{ z := 1, els := (avTo s m n mk.1).map ri, ty := 3 }] }), (3502, { base := 0, blks := [{ z := 2, els := [[V.sl 1 (s.map ri), V.sl 1 (m.map ri)]], ty := 52 }] })] noH) (fun mk => m.length - mk.1) ⟨0, by omega⟩ ?_ (by (try simp -dsimp only [hpush_noH, hpush_hps, hps_over]); refine hle_hps ?_; simp -dsimp [allK, avTo, ri]; repeat' (first | (refine And.intro ?_ ?_) | (refine sLe.same ?_ ?_ <;> (simp; done)) | (refine sLe.clear ?_ ?_ <;> (simp; done)) | (refine sLe.drop 1 ?_ ?_ ?_ <;> (simp; done)))) ?_
  · simp [okAll, okv]
  rintro ⟨mk, hmk⟩
  simp only
  by_cases hm1 : mk < m.length - 1
  case neg =>
    have hme : mk = m.length - 1 := by omega
    subst hme
    have hal := avTo_len s m n (m.length - 1)
    simp -dsimp [har]
    repeat' (first | omega | (simp -dsimp [E35, ri, cellp, ints, har, wm, wnm, hal]) | (refine Also.intro ?_ fun _ => ?_) | (refine Hold.intro fun _ => ?_) | (refine And.intro ?_ ?_))
  have hm' : mk + 1 < m.length := by omega
  have hmm : mk < m.length := by omega
  have w1 : IntKind.wrap .i64 ((mk : Int) + 1) = (mk + 1 : Nat) := wrap_id (by omega) (by omega)
  have hms := avTo_succ s m n mk
  have hml := avTo_len s m n mk
  have hmb := avTo_bound hv (show n ≤ 24 by omega) mk (by omega)
  have hn24 : n ≤ 24 := by omega
  generalize avTo s m n mk = o at *
  obtain ⟨A, hA⟩ : ∃ A, A = m[mk] := ⟨_, rfl⟩
  obtain ⟨B, hB⟩ : ∃ B, B = m[mk + 1] := ⟨_, rfl⟩
  have hA' := hA.symm
  have hB' := hB.symm
  simp -dsimp [hm1, hmm, hm', ri, hA', hB']
  repeat' (first | omega | (simp -dsimp [E35, ri, cellp, ints, hm1, hmm, hm', w1, hA', hB']) | (refine Also.intro ?_ fun _ => ?_) | (refine Hold.intro fun _ => ?_) | (refine And.intro ?_ ?_))
  refine awp_loop [45, 46, 11, 47, 48, 49, 50, 51, 52, 53, 54, 55, 56, 57, 58, 59, 60, 12, 13, 61, 62, 63, 64, 65, 66, 67, 68, 69, 70, 71, 72, 73, 74, 75, 76, 77, 78, 79, 80, 81, 82, 83, 84, 85, 86, 87, 88, 89, 90, 91, 92, 93, 94, 95, 96, 44] (fun k : Fin (n + 1) => [(44, (true, .int .i64 (k.1 : Nat)))]) (fun k => hps [(3523, { base := 0, blks := [{ z := 1, els := (avIn s m n mk o k.1).map ri, ty := 3 }] }), (3502, { base := 0, blks := [{ z := 2, els := [[V.sl 1 (s.map ri), V.sl 1 (m.map ri)]], ty := 52 }] })] noH) (fun k => n - k.1) ⟨0, by omega⟩ ?_ (by (try simp -dsimp only [hpush_noH, hpush_hps, hps_over]); refine hle_hps ?_; simp -dsimp [allK, avIn]; repeat' (first | (refine And.intro ?_ ?_) | (refine sLe.same ?_ ?_ <;> (simp; done)) | (refine sLe.clear ?_ ?_ <;> (simp; done)) | (refine sLe.drop 1 ?_ ?_ ?_ <;> (simp; done)))) ?_
  · simp [okAll, okv]
  rintro ⟨k, hk⟩
  simp only
  by_cases hk1 : k < n
  case neg =>
    have hke : k = n := by omega
    subst hke
    simp -dsimp
    repeat' (first | omega | (simp -dsimp [E35, ri, cellp, ints, w1]) | (refine Also.intro ?_ fun _ => ?_) | (refine Hold.intro fun _ => ?_) | (refine And.intro ?_ ?_))
    refine ⟨⟨mk + 1, by omega⟩, tle_kept (kept_upds rfl (kept_forget rfl (kept_upds rfl kept_base))) ?_, (by (try simp -dsimp only [hpush_noH, hpush_hps, hps_over]); refine hle_hps ?_; simp -dsimp [allK, hms]; repeat' (first | (refine And.intro ?_ ?_) | (refine sLe.same ?_ ?_ <;> (simp; done)) | (refine sLe.clear ?_ ?_ <;> (simp; done)) | (refine sLe.drop 1 ?_ ?_ ?_ <;> (simp; done)))), by simp only; omega⟩
    simp [okAll, okv]
  have w2 : IntKind.wrap .i64 ((k : Int) + 1) = (k + 1 : Nat) := wrap_id (by omega) (by omega)
  have his := avIn_succ s m n mk o k
  have hil := avIn_len s m n mk o k
  have hib := avIn_bound hv hm' hn24 (c := (mk : Int) * 115200) (by omega) hmb k (by omega)
  generalize avIn s m n mk o k = u at *
  have hku : k < u.length := by omega
  have hun : u.length = n := by omega
  have eu : u.getD k 0 = u[k] := by simp [List.getD, List.getElem?_eq_getElem hku]
  have bu := hib u[k] (List.getElem_mem hku)
  have hkn : (k : Int) < n := by omega
  have hnz : ¬ n = 0 := by omega
  obtain ⟨a, b, q, r, e1, e2, hab, hbs, eq, er, hrn, haq, hp0, hp1⟩ := mark_facts hv hm' hk1 hn24
  have hsl := (chk_len hv).1
  have hm1' : mk < m.length := by omega
  have w1' : IntKind.wrap .i64 ((mk : Int) + 1) = (mk + 1 : Nat) := by rw [wrap_id (by have := (chk_len hv).2.2; omega) (by have := (chk_len hv).2.2; omega)]; omega
  have w2b : IntKind.wrap .i64 ((b : Int) - a) = (b : Int) - a := wrap_id (by omega) (by omega)
  have w3b : IntKind.wrap .i64 ((k : Int) * ((b : Int) - a)) = (k : Int) * ((b : Int) - a) := wrap_id (by omega) (by omega)
  have w4 : IntKind.wrap .i64 (q : Int) = q := wrap_id (by omega) (by omega)
  obtain ⟨x, hx⟩ : ∃ x, x = a + q := ⟨_, rfl⟩
  obtain ⟨y, hy⟩ : ∃ y, y = a + q + 1 := ⟨_, rfl⟩
  have w5 : IntKind.wrap .i64 ((a : Int) + q) = (x : Int) := by rw [wrap_id (by omega) (by omega)]; omega
  have w6 : IntKind.wrap .i64 ((x : Int) + 1) = (y : Int) := by rw [wrap_id (by omega) (by omega)]; omega
  have i1 : x < s.length := by omega
  have i2 : y < s.length := by omega
  have g1 : s.getD x 0 = s[x] := by simp [List.getD, List.getElem?_eq_getElem i1]
  have g2 : s.getD y 0 = s[y] := by simp [List.getD, List.getElem?_eq_getElem i2]
  have b1 := samp hv x
  have b2 := samp hv y
  rw [g1] at b1
  rw [g2] at b2
  have d1 : m.getD mk 0 = a := by rw [← e1]; simp [List.getD, List.getElem?_eq_getElem hm1']
  have d2 : m.getD (mk + 1) 0 = b := by rw [← e2]; simp [List.getD, List.getElem?_eq_getElem hm']
  have t1 : ((a : Int) + q).toNat = x := by omega
  have t2 : ((a : Int) + q + 1).toNat = y := by omega
  have m1 := mul_abs (a := (n : Int)) (b := s[x]) (m := 24) (n := 100) (by omega) (by omega) (by omega) (by omega)
  have m2 := mul_abs (a := (n : Int) - r) (b := s[x]) (m := 24) (n := 100) (by omega) (by omega) (by omega) (by omega)
  have m3 := mul_abs (a := (r : Int)) (b := s[y]) (m := 24) (n := 100) (by omega) (by omega) (by omega) (by omega)
  have w7 : IntKind.wrap .i64 ((n : Int) * s[x]) = (n : Int) * s[x] := wrap_id (by omega) (by omega)
  have w8 : IntKind.wrap .i64 ((n : Int) - r) = (n : Int) - r := wrap_id (by omega) (by omega)
  have w9 : IntKind.wrap .i64 (((n : Int) - r) * s[x]) = ((n : Int) - r) * s[x] := wrap_id (by omega) (by omega)
  have w10 : IntKind.wrap .i64 ((r : Int) * s[y]) = (r : Int) * s[y] := wrap_id (by omega) (by omega)
  have w11 : IntKind.wrap .i64 (((n : Int) - r) * s[x] + (r : Int) * s[y]) = ((n : Int) - r) * s[x] + (r : Int) * s[y] := wrap_id (by omega) (by omega)
  have hval : valZ s m mk k n = if (r : Int) = 0 then (n : Int) * s[x] else ((n : Int) - r) * s[x] + (r : Int) * s[y] := by
    simp only [valZ, d1, d2, eq, er, t1, t2, g1, g2]
  have hA2 : A = (a : Int) := by rw [hA, e1]
  have hB2 : B = (b : Int) := by rw [hB, e2]
  have hset : (u.map ri).set k [.int .i64 (u[k] + valZ s m mk k n)] = (avIn s m n mk o (k + 1)).map ri := by
    rw [his, avStep, eu, List.map_set]; rfl
  have u1 : IntKind.wrap .i64 (u[k] + ((n : Int) - r) * s[x]) = u[k] + ((n : Int) - r) * s[x] := wrap_id (by omega) (by omega)
  have u2 : IntKind.wrap .i64 (u[k] + ((n : Int) - r) * s[x] + (r : Int) * s[y]) = u[k] + ((n : Int) - r) * s[x] + (r : Int) * s[y] := wrap_id (by omega) (by omega)
  by_cases hr0 : r = 0
  · rw [if_pos (by omega)] at hval
    have u3 : IntKind.wrap .i64 (u[k] + (n : Int) * s[x]) = u[k] + (n : Int) * s[x] := wrap_id (by omega) (by omega)
    have hr1 : ¬ (0 : Int) < r := by omega
    have w9' : IntKind.wrap .i64 (n : Int) = n := wrap_id (by omega) (by omega)
    rw [hval] at hset
    simp -dsimp [hkn, hk1, hun, ri]
    clear m1 m2 m3 b1 b2 bu hp0 hp1 hval hib hmb hms his hil har hA hB hA' hB' d1 d2 t1 t2 g1 g2 u1 u2 w8 w9 w10 w11 eu wnm0 wnm1 wnm wm hml w1' htb
    repeat' (first | (simp -dsimp [E35, ri, cellp, ints, hkn, hk1, hku, hun, ri, hA2, hB2, w2, w2b, w3b, eq, er, w4, w5, w6, i1, i2, hnz, hr0, w7, w9', u3, hset, -List.map_set]) | (refine Also.intro ?_ fun _ => ?_) | (refine Hold.intro fun _ => ?_) | (refine And.intro ?_ ?_) | (show (_ : Int) ≤ _; omega) | (show (_ : Int) < _; omega) | (show (_ : Nat) ≤ _; omega) | (show (_ : Nat) < _; omega))
    refine ⟨⟨k + 1, by omega⟩, tle_chain rfl ?_, (by (try simp -dsimp only [hpush_noH, hpush_hps, hps_over]); refine hle_hps ?_; simp -dsimp [allK, ]; repeat' (first | (refine And.intro ?_ ?_) | (refine sLe.same ?_ ?_ <;> (simp; done)) | (refine sLe.clear ?_ ?_ <;> (simp; done)) | (refine sLe.drop 1 ?_ ?_ ?_ <;> (simp; done)))), by simp only; omega⟩
    simp [okAll, okv]
  · rw [if_neg (by omega)] at hval
    have hr1 : (0 : Int) < r := by omega
    have hr2 : 0 < r := by omega
    rw [hval, ← Int.add_assoc] at hset
    simp -dsimp [hkn, hk1, hun, ri]
    clear m1 m2 m3 b1 b2 bu hp0 hp1 hval hib hmb hms his hil har hA hB hA' hB' d1 d2 t1 t2 g1 g2 w11 eu wnm0 wnm1 wnm wm hml w1' htb w7
    repeat' (first | (simp -dsimp [E35, ri, cellp, ints, hkn, hk1, hku, hun, ri, hA2, hB2, w2, w2b, w3b, eq, er, w4, w5, w6, i1, i2, hnz, hr0, hr1, hr2, w8, w9, w10, u1, u2, hset, -List.map_set]) | (refine Also.intro ?_ fun _ => ?_) | (refine Hold.intro fun _ => ?_) | (refine And.intro ?_ ?_) | (show (_ : Int) ≤ _; omega) | (show (_ : Int) < _; omega) | (show (_ : Nat) ≤ _; omega) | (show (_ : Nat) < _; omega))
    refine ⟨⟨k + 1, by omega⟩, tle_chain rfl ?_, (by (try simp -dsimp only [hpush_noH, hpush_hps, hps_over]); refine hle_hps ?_; simp -dsimp [allK, ]; repeat' (first | (refine And.intro ?_ ?_) | (refine sLe.same ?_ ?_ <;> (simp; done)) | (refine sLe.clear ?_ ?_ <;> (simp; done)) | (refine sLe.drop 1 ?_ ?_ ?_ <;> (simp; done)))), by simp only; omega⟩
    simp [okAll, okv]
theorem ok35 : FnOK Try.prog 35 (.pure avS) := pure_fn (E := E35) rfl (.cons ok33 (.cons ok56 .nil)) (ok := []) (fn := Try.f35) (by kernel_rfl) (by kernel_rfl) (by kernel_rfl) (by kernel_rfl) rfl (fun _ _ => by simp) b35
theorem avR_len (s m : List Int) (t : Int) : (avR s m t).1.length ≤ 9223372036854775807 := by
  unfold avR
  split
  · split
    · rename_i h1 h2
      simp only [withinB, decide_eq_true_eq] at h2
      have := avTo_len s m t.toNat (m.length - 1)
      simp only; omega
    · simp
  · simp
abbrev trueAvS : PSpec := { avS with res := fun _ => .bool true }
noncomputable abbrev E10 : Env := { P := Try.prog, fn := tbl [(33, .pure CheckS), (34, .pure CheckS), (35, .pure avS), (36, .pure avS), (29, .pure sameS), (18, .pure worksS)], own := [], key := 1000, nt := 46 }
theorem b10 : PureBody E10 [] Try.f10 trueAvS := by
  refine pb ?_
  rintro ⟨s, m, t⟩ ⟨p1, p2⟩
  simp only at p1 p2
  have hl := avR_len s m t
  simp -dsimp [Try.f10, E10, ints, p1, p2]
  repeat' (first | omega | (simp -dsimp [E10, ri, cellp, ints, p1, p2, hl]) | (refine Also.intro ?_ fun _ => ?_) | (refine Hold.intro fun _ => ?_) | (refine And.intro ?_ ?_))
theorem ok10 : FnOK Try.prog 10 (.pure trueAvS) := pure_fn (E := E10) rfl (.cons ok33 (.cons ok34 (.cons ok35 (.cons ok36 (.cons ok29 (.cons ok18 .nil)))))) (ok := []) (fn := Try.f10) (by kernel_rfl) (by kernel_rfl) (by kernel_rfl) (by kernel_rfl) rfl (fun _ _ => by simp) b10
end Go.Sx

