/- HealthWhole's contract. No conditions. -/
import Derived.Test.YtjnfgejicdnjnaaSxHr
set_option linter.unusedSimpArgs false
set_option linter.unusedVariables false
set_option maxRecDepth 100000
set_option maxHeartbeats 1000000
namespace Go.Sx
open Go.Proofs

def at3 (j q m : Nat) : Nat := j + q * m
theorem at3_zero (j m : Nat) : at3 j 0 m = j := by simp [at3]
theorem at3_succ (j q m : Nat) : ((at3 j q m : Nat) : Int) + (m : Nat) = (at3 j (q + 1) m : Nat) := by simp only [at3, Nat.succ_mul]; omega
theorem at3_lt {j q m n : Nat} (hj : j < m) (hq : q < n) : at3 j q m < n * m := by
  have : (q + 1) * m ≤ n * m := Nat.mul_le_mul_right _ (by omega)
  rw [Nat.succ_mul] at this
  simp only [at3]; omega
theorem at3_ge (j m n : Nat) : n * m ≤ at3 j n m := by simp only [at3]; omega
abbrev trueWholeS : PSpec := { gearDom with res := fun _ => .bool true }
noncomputable abbrev E13 : Env := { P := Try.prog, fn := tbl [(39, .pure ResidualS), (37, .pure PatternS), (41, .pure MeasureS), (18, .pure worksS)], own := [], key := 1300, nt := 186 }
theorem b13 : PureBody E13 [] Try.f13 trueWholeS := by
  refine pb ?_
  rintro ⟨l, t⟩ hl
  simp only at hl
  by_cases hv : avgOk l t = true
  case neg =>
    have hv' : avgOk l t = false := by simpa using hv
    simp -dsimp [Try.f13, E13, ints, hl, hv', resR, patR, measR, lvV]
    repeat' (first | omega | (simp -dsimp [E13, ri, cellp, ints, hl, hv', resR, patR, measR, lvV]) | (refine Also.intro ?_ fun _ => ?_) | (refine Hold.intro fun _ => ?_) | (refine And.intro ?_ ?_))
  obtain ⟨-, -, -, n, rfl, -⟩ := avg_facts hv
  obtain ⟨m, r, P, hrr, hpr, ⟨b, c, d, hmr⟩, l1, l2, hlb, n1, n2, m1, m2, hnm, hrl, hpl, hrb, hpb, hcs, hsq, hal⟩ := whole_facts hv
  have hnm' : (m : Int) * (n : Int) = (l.length : Int) := by rw [Int.mul_comm]; exact_mod_cast hnm
  have wnm : IntKind.wrap .i64 (l.length : Int) = l.length := wrap_id (by omega) (by omega)
  have hnz : ¬ n = 0 := by omega
  have hn1 : ¬ (n : Int) < 1 := by omega
  have hmz : ¬ m = 0 := by omega
  have hmz' : ¬ (m : Int) = 0 := by omega
  have hl9 : l.length ≤ 9223372036854775807 := by omega
  have hm9 : m ≤ 9223372036854775807 := by omega
  simp -dsimp [Try.f13, E13, ints, hl, hrr, hpr, hmr, hrl, hpl, hnm', wnm, hnz, hn1, hmz, hmz', lvV]
  repeat' (first | omega | (simp -dsimp [E13, ri, cellp, ints, hl, hrr, hpr, hmr, hrl, hpl, hnm', wnm, hnz, hn1, hmz, hmz', hl9, hm9, lvV]) | (refine Also.intro ?_ fun _ => ?_) | (refine Hold.intro fun _ => ?_) | (refine And.intro ?_ ?_))
  refine awp_loop [84, 85, 86, 87, 90, 91, 92, 93, 94, 95, 96, 97, 98, 99, 100, 101, 102, 103, 104, 12, 105, 106, 107, 108, 109, 110, 111, 112, 113, 114, 115, 116, 117, 118, 119, 13, 120, 121, 122, 123, 124, 125, 126, 127, 128, 129, 130, 14, 131, 132, 133, 134, 135, 136, 137, 138, 139, 140, 141, 142, 143, 144, 15, 88, 89, 16] (fun k : Fin (l.length + 1) => [(16, (true, .int .i64 (k.1 : Nat))), (12, (true, .int .i64 (sqS l n k.1))), (13, (true, .int .i64 (ptS P m k.1))), (14, (true, .int .i64 (enS r k.1))), (15, (true, .bool (alB l m k.1)))]) (fun k => hps [(1309, { base := 0, blks := [{ z := 4, els := [[.int .i64 (enS r l.length), .int .i64 b, .int .i64 c, .int .i64 d]], ty := 31 }] })] noH) (fun k => l.length - k.1) ⟨0, by omega⟩ ?_ (by (try simp -dsimp only [hpush_noH, hpush_hps, hps_over]); refine hle_hps ?_; simp -dsimp [allK, ]; repeat' (first | (refine And.intro ?_ ?_) | (refine sLe.same ?_ ?_ <;> (simp; done)) | (refine sLe.clear ?_ ?_ <;> (simp; done)) | (refine sLe.drop 1 ?_ ?_ ?_ <;> (simp; done)))) ?_
  · simp [okAll, okv, sqS, ptS, enS, sm, alB]
  rintro ⟨k, hk⟩
  simp only
  by_cases hk1 : k < l.length
  case pos =>
    have hk2 : k < r.length := by omega
    have hkl : ((k : Int) < l.length) := by omega
    have w1 : IntKind.wrap .i64 ((k : Int) + 1) = (k + 1 : Nat) := wrap_id (by omega) (by omega)
    have hml : modN k m < m := Nat.mod_lt _ m1
    have hmP : modN k m < P.length := by omega
    have hmn : m ≤ n * m := Nat.le_mul_of_pos_left _ n1
    have hmL : modN k m < l.length := by omega
    have ht := tmod_nat k m
    have e1 := sqS_succ (n := n) hk1
    have e2 := ptS_succ hmP
    have e3 := enS_succ hk2
    have e4 := alB_succ (m := m) hk1 hmL
    have b1 := sqS_bound (n := n) hlb n2 k
    have b2 := ptS_bound hpb m k
    have b3 := enS_bound hrb k
    have bx := hlb l[k] (List.getElem_mem hk1)
    have by' := hpb P[modN k m] (List.getElem_mem hmP)
    have bz := hrb r[k] (List.getElem_mem hk2)
    generalize hx : l[k] = x at *
    generalize hy : P[modN k m] = y at *
    generalize hz : r[k] = z at *
    generalize hw : l[modN k m] = w at *
    generalize sqS l n k = sq at *
    generalize ptS P m k = pt at *
    generalize enS r k = en at *
    generalize alB l m k = ab at *
    have q1 := mul_abs (a := x) (b := (n : Int)) (m := 1000000) (n := 24) (by omega) (by omega) (by omega) (by omega)
    have q2 := mul_abs (a := x * n) (b := x) (m := 24000000) (n := 1000000) (by omega) (by omega) (by omega) (by omega)
    have q3 := mul_abs (a := x * n * x) (b := (n : Int)) (m := 24000000000000) (n := 24) (by omega) (by omega) (by omega) (by omega)
    have q4 := mul_abs (a := y) (b := y) (m := 24000000) (n := 24000000) (by omega) (by omega) (by omega) (by omega)
    have q5 := mul_abs (a := z) (b := z) (m := 48000000) (n := 48000000) (by omega) (by omega) (by omega) (by omega)
    have v1 : IntKind.wrap .i64 (x * n) = x * n := wrap_id (by omega) (by omega)
    have v2 : IntKind.wrap .i64 (x * n * x) = x * n * x := wrap_id (by omega) (by omega)
    have v3 : IntKind.wrap .i64 (x * n * x * n) = x * n * x * n := wrap_id (by omega) (by omega)
    have v4 : IntKind.wrap .i64 (y * y) = y * y := wrap_id (by omega) (by omega)
    have v5 : IntKind.wrap .i64 (z * z) = z * z := wrap_id (by omega) (by omega)
    have v6 : IntKind.wrap .i64 (sq + x * n * x * n) = sq + x * n * x * n := wrap_id (by omega) (by omega)
    have v7 : IntKind.wrap .i64 (pt + y * y) = pt + y * y := wrap_id (by omega) (by omega)
    have v8 : IntKind.wrap .i64 (en + z * z) = en + z * z := wrap_id (by omega) (by omega)
    simp -dsimp [hk1, hk2, hkl, hrl, hpl, hmL, hml, hmP, hmz, hmz', ht, hx, hy, hz, hw, ri]
    repeat' (first | omega | (simp -dsimp [E13, ri, cellp, ints, hk1, hk2, hkl, hrl, hpl, hmL, hml, hmP, hmz, hmz', ht, hx, hy, hz, hw, w1, v1, v2, v3, v4, v5, v6, v7, v8]) | (refine Also.intro ?_ fun _ => ?_) | (refine Hold.intro fun _ => ?_) | (refine And.intro ?_ ?_))
    refine ⟨⟨k + 1, by omega⟩, tle_chain rfl ?_, (by (try simp -dsimp only [hpush_noH, hpush_hps, hps_over]); refine hle_hps ?_; simp -dsimp [allK, ]; repeat' (first | (refine And.intro ?_ ?_) | (refine sLe.same ?_ ?_ <;> (simp; done)) | (refine sLe.clear ?_ ?_ <;> (simp; done)) | (refine sLe.drop 1 ?_ ?_ ?_ <;> (simp; done)))), by simp only; omega⟩
    simp [okAll, okv, e1, e2, e3, e4]
  have hke : k = l.length := by omega
  subst hke
  have b2 := ptS_bound hpb m l.length
  have b3 := enS_bound hrb l.length
  generalize enS r l.length = en at *
  generalize ptS P m l.length = pt at *
  generalize alB l m l.length = ab at *
  have hwr : IntKind.wrap .i64 (en + pt) = en + pt := wrap_id (by omega) (by omega)
  simp -dsimp [hsq]
  repeat' (first | omega | (simp -dsimp [E13, ri, cellp, ints, hsq]) | (refine Also.intro ?_ fun _ => ?_) | (refine Hold.intro fun _ => ?_) | (refine And.intro ?_ ?_))
  refine awp_loop [145, 146, 147, 18, 150, 19, 151, 152, 153, 154, 158, 159, 160, 161, 162, 163, 155, 156, 157, 164, 165, 4, 148, 149, 17] (fun j : Fin (m + 1) => [(17, (true, .int .i64 (j.1 : Nat)))]) (fun j => hps [(1309, { base := 0, blks := [{ z := 4, els := [[.int .i64 en, .int .i64 b, .int .i64 c, .int .i64 d]], ty := 31 }] })] noH) (fun j => m - j.1) ⟨0, by omega⟩ ?_ (by (try simp -dsimp only [hpush_noH, hpush_hps, hps_over]); refine hle_hps ?_; simp -dsimp [allK, ]; repeat' (first | (refine And.intro ?_ ?_) | (refine sLe.same ?_ ?_ <;> (simp; done)) | (refine sLe.clear ?_ ?_ <;> (simp; done)) | (refine sLe.drop 1 ?_ ?_ ?_ <;> (simp; done)))) ?_
  · simp [okAll, okv]
  rintro ⟨j, hj⟩
  simp only
  by_cases hj1 : j < m
  case neg =>
    have hje : j = m := by omega
    subst hje
    cases ab with
    | true =>
      have he : en = 0 := by simpa using hal
      subst he
      have hp0 : IntKind.wrap .i64 pt = pt := wrap_id (by omega) (by omega)
      simp -dsimp [hwr, hp0, lvV]
      repeat' (first | omega | (simp -dsimp [E13, ri, cellp, ints, hwr, hp0, lvV]) | (refine Also.intro ?_ fun _ => ?_) | (refine Hold.intro fun _ => ?_) | (refine And.intro ?_ ?_))
    | false =>
      have he : ¬ en = 0 := by simpa using hal
      simp -dsimp [hwr, he, lvV]
      repeat' (first | omega | (simp -dsimp [E13, ri, cellp, ints, hwr, he, lvV]) | (refine Also.intro ?_ fun _ => ?_) | (refine Hold.intro fun _ => ?_) | (refine And.intro ?_ ?_))
  have hj2 : (j : Int) < m := by omega
  have w1 : IntKind.wrap .i64 ((j : Int) + 1) = (j + 1 : Nat) := wrap_id (by omega) (by omega)
  have hc0 := hcs j hj1
  simp -dsimp [hj1, hj2]
  repeat' (first | omega | (simp -dsimp [E13, ri, cellp, ints, hj1, hj2]) | (refine Also.intro ?_ fun _ => ?_) | (refine Hold.intro fun _ => ?_) | (refine And.intro ?_ ?_))
  refine awp_loop [151, 152, 153, 154, 158, 159, 160, 161, 162, 163, 18, 155, 156, 157, 19] (fun q : Fin (n + 1) => [(19, (true, .int .i64 (at3 j q.1 m : Nat))), (18, (true, .int .i64 (csS r m j q.1)))]) (fun q => hps [(1309, { base := 0, blks := [{ z := 4, els := [[.int .i64 en, .int .i64 b, .int .i64 c, .int .i64 d]], ty := 31 }] })] noH) (fun q => n - q.1) ⟨0, by omega⟩ ?_ (by (try simp -dsimp only [hpush_noH, hpush_hps, hps_over]); refine hle_hps ?_; simp -dsimp [allK, ]; repeat' (first | (refine And.intro ?_ ?_) | (refine sLe.same ?_ ?_ <;> (simp; done)) | (refine sLe.clear ?_ ?_ <;> (simp; done)) | (refine sLe.drop 1 ?_ ?_ ?_ <;> (simp; done)))) ?_
  · simp [okAll, okv, at3_zero, csS, sm]
  rintro ⟨q, hq⟩
  simp only
  by_cases hq1 : q < n
  case neg =>
    have hqe : q = n := by omega
    subst hqe
    have hge := at3_ge j m q
    rw [hnm] at hge
    have hge1 : ¬ at3 j q m < l.length := by omega
    have hge2 : ¬ (at3 j q m : Int) < l.length := by omega
    simp -dsimp [hge1, hge2, hc0, hrl]
    repeat' (first | omega | (simp -dsimp [E13, ri, cellp, ints, hge1, hge2, hc0, hrl, w1]) | (refine Also.intro ?_ fun _ => ?_) | (refine Hold.intro fun _ => ?_) | (refine And.intro ?_ ?_))
    refine ⟨⟨j + 1, by omega⟩, tle_kept (kept_upds rfl (kept_forget rfl (kept_upds rfl kept_base))) ?_, (by (try simp -dsimp only [hpush_noH, hpush_hps, hps_over]); refine hle_hps ?_; simp -dsimp [allK, ]; repeat' (first | (refine And.intro ?_ ?_) | (refine sLe.same ?_ ?_ <;> (simp; done)) | (refine sLe.clear ?_ ?_ <;> (simp; done)) | (refine sLe.drop 1 ?_ ?_ ?_ <;> (simp; done)))), by simp only; omega⟩
    simp [okAll, okv]
  have hlt := at3_lt hj1 hq1
  rw [hnm] at hlt
  have hlr : at3 j q m < r.length := by omega
  have hli : (at3 j q m : Int) < l.length := by omega
  have hs := at3_succ j q m
  have wq : IntKind.wrap .i64 (at3 j (q + 1) m : Nat) = (at3 j (q + 1) m : Nat) := wrap_id (by omega) (by omega)
  have e1 : csS r m j (q + 1) = csS r m j q + r[at3 j q m] := csS_succ hlr
  have b1 := csS_bound hrb m j q
  have bz := hrb r[at3 j q m] (List.getElem_mem hlr)
  generalize hz : r[at3 j q m] = z at *
  generalize csS r m j q = cs at *
  have v1 : IntKind.wrap .i64 (cs + z) = cs + z := wrap_id (by omega) (by omega)
  simp -dsimp [hlt, hlr, hli, hrl, hz, ri]
  repeat' (first | omega | (simp -dsimp [E13, ri, cellp, ints, hlt, hlr, hli, hrl, hz, v1, hs, wq]) | (refine Also.intro ?_ fun _ => ?_) | (refine Hold.intro fun _ => ?_) | (refine And.intro ?_ ?_))
  refine ⟨⟨q + 1, by omega⟩, tle_chain rfl ?_, (by (try simp -dsimp only [hpush_noH, hpush_hps, hps_over]); refine hle_hps ?_; simp -dsimp [allK, ]; repeat' (first | (refine And.intro ?_ ?_) | (refine sLe.same ?_ ?_ <;> (simp; done)) | (refine sLe.clear ?_ ?_ <;> (simp; done)) | (refine sLe.drop 1 ?_ ?_ ?_ <;> (simp; done)))), by simp only; omega⟩
  simp [okAll, okv, e1]
theorem ok13 : FnOK Try.prog 13 (.pure trueWholeS) := pure_fn (E := E13) rfl (.cons ok39 (.cons ok37 (.cons ok41 (.cons ok18 .nil)))) (ok := []) (fn := Try.f13) (by kernel_rfl) (by kernel_rfl) (by kernel_rfl) (by kernel_rfl) rfl (fun _ _ => by simp) b13
end Go.Sx

