/- HealthSlopes: the reference's Forecast. No conditions. -/
import Derived.Test.YtbdphjgpjhlpmaaSyY
set_option linter.unusedSimpArgs false
set_option linter.unusedVariables false
set_option maxRecDepth 100000
set_option maxHeartbeats 1000000
namespace Go.Sx
open Go.Proofs

theorem fcR_ok {h v : List Int} {a : Int} (b1 : slOk h v = true) (b0 : withinB a 0 1000000 = true) (b2 : ¬ v.length = 1) : fcR h v a = (lowN (fcM (fcTo h v a (lowN (medF (slFr h v)).1.1 (medF (slFr h v)).1.2) (lowD (medF (slFr h v)).1.1 (medF (slFr h v)).1.2) v.length)) (lowD (medF (slFr h v)).1.1 (medF (slFr h v)).1.2), lowD (fcM (fcTo h v a (lowN (medF (slFr h v)).1.1 (medF (slFr h v)).1.2) (lowD (medF (slFr h v)).1.1 (medF (slFr h v)).1.2) v.length)) (lowD (medF (slFr h v)).1.1 (medF (slFr h v)).1.2), 0) := by
  rw [fcR, b1, b0, if_pos (by rfl), if_neg b2]
theorem fc_pre {h v : List Int} {a p q : Int} (F : SlF h v) (ha : 0 ≤ a ∧ a ≤ 1000000) (hp : -2000000 ≤ p ∧ p ≤ 2000000) (hq : 1 ≤ q ∧ q ≤ 1000000) : lowPre (fcM (fcTo h v a p q v.length)) q := by
  have hm := (mid_ok (E := fcTo h v a p q v.length) (by rw [fcTo_length]; exact F.n1)).1
  unfold fcTo at hm
  obtain ⟨i, hi, e⟩ := List.mem_map.1 hm
  have e' : fcM (fcTo h v a p q v.length) = fcEnd h v a p q i := e.symm
  have a1 := F.vb i; have a3 := F.hb i
  have m1 := mul_bd (x := v.getD i 0) (y := q) (A := 1000000) (B := 1000000) (by omega) (by omega) (by omega) (by omega)
  have m2 := mul_bd (x := p) (y := a - h.getD i 0) (A := 2000000) (B := 1000000) (by omega) (by omega) (by omega) (by omega)
  refine ⟨by omega, by omega, ?_, ?_⟩ <;> rw [e', fcEnd] <;> omega
theorem slR_ok {h v : List Int} (b1 : slOk h v = true) (b2 : ¬ v.length = 1) : slR h v = (lowN (medF (slFr h v)).1.1 (medF (slFr h v)).1.2, lowD (medF (slFr h v)).1.1 (medF (slFr h v)).1.2, 0) := by
  rw [slR, if_pos b1, if_neg b2]
def rq (q e : Int) : List V := [.int .i64 e, .int .i64 q]
noncomputable abbrev E8 : Env := { P := Try.prog, fn := tbl [(13, .pure timedS), (17, .pure withinS), (6, .pure SlopeS), (15, .pure fracS2)], own := [], key := 800, nt := 136 }
theorem b8 : PureBody E8 [] Try.f8 ForecastS := by
  refine pb ?_
  rintro ⟨h, v, a⟩ ⟨p1, p2⟩
  simp only at p1 p2
  by_cases b1 : slOk h v = true
  case neg =>
    have b1' : slOk h v = false := by simpa using b1
    simp -dsimp [Try.f8, E8, fcR, b1']
    repeat' (first | omega | (simp -dsimp [E8, ri, cellp, ints, p1, p2, b1', fcR]) | (refine Also.intro ?_ fun _ => ?_) | (refine Hold.intro fun _ => ?_) | (refine And.intro ?_ ?_))
  by_cases b0 : withinB a 0 1000000 = true
  case neg =>
    have b0' : withinB a 0 1000000 = false := by simpa using b0
    simp -dsimp [Try.f8, E8, fcR, b1, b0']
    repeat' (first | omega | (simp -dsimp [E8, ri, cellp, ints, p1, p2, b1, b0', fcR]) | (refine Also.intro ?_ fun _ => ?_) | (refine Hold.intro fun _ => ?_) | (refine And.intro ?_ ?_))
  by_cases b2 : v.length = 1
  · have b2' : (v.length : Int) = 1 := by omega
    have hs : slR h v = (0, 0, 3) := by rw [slR, if_pos b1, if_pos b2]
    simp -dsimp [Try.f8, E8, fcR, b1, b0, b2, hs]
    repeat' (first | omega | (simp -dsimp [E8, ri, cellp, ints, p1, p2, b1, b0, b2, b2', fcR, hs]) | (refine Also.intro ?_ fun _ => ?_) | (refine Hold.intro fun _ => ?_) | (refine And.intro ?_ ?_))
  obtain ⟨f1, f2, f3, f4, f5, f6⟩ := slOk_facts b1
  have b3 : 2 ≤ v.length := by omega
  have ha : 0 ≤ a ∧ a ≤ 1000000 := by simpa [withinB] using b0
  obtain ⟨q1, q2, q3, q4⟩ := low_bounds (medF (slFr h v))
  have hs := slR_ok b1 b2
  rw [fcR_ok b1 b0 b2]
  generalize hm : medF (slFr h v) = m at *
  generalize hp : lowN m.1.1 m.1.2 = p at *
  generalize hq : lowD m.1.1 m.1.2 = q at *
  simp -dsimp [Try.f8, E8, b1, b0, hs]
  repeat' (first | omega | (simp -dsimp [E8, ri, cellp, ints, p1, p2, b1, b0, hs]) | (refine Also.intro ?_ fun _ => ?_) | (refine Hold.intro fun _ => ?_) | (refine And.intro ?_ ?_))
  refine awp_loop_g [(12, 866, 2, 40)] rfl (by simp) [41, 42, 43, 44, 47, 48, 49, 50, 51, 52, 53, 54, 55, 56, 57, 58, 59, 60, 61, 62, 63, 64, 65, 66, 12, 45, 46, 13] (fun k : Fin (v.length + 1) => [(13, (true, .int .i64 (k.1 : Nat))), (12, (true, .bsl 866 0 k.1))])
    (fun k => hps [(866, { base := 0, blks := [{ z := 2, els := (fcTo h v a p q k.1).map (rq q), ty := 40 }] })] noH) (fun k => v.length - k.1) ⟨0, by omega⟩ ?_ ?_ ?_
  · simp [okAll, okv]
  · exact (by (try simp -dsimp only [hpush_noH, hpush_hps, hps_over]); refine hle_hps ?_; simp -dsimp [allK, fcTo]; repeat' (first | (refine And.intro ?_ ?_) | (refine sLe.same ?_ ?_ <;> (simp; done)) | (refine sLe.clear ?_ ?_ <;> (first | (simp; done) | (simp; omega))) | (refine sLe.drop 1 ?_ ?_ ?_ <;> (simp; done))))
  · rintro ⟨k, hk⟩
    simp only
    by_cases hk1 : k < v.length
    · have hki : (k : Int) < v.length := by omega
      have wk : IntKind.wrap .i64 ((k : Int) + 1) = (k + 1 : Nat) := wrap_id (by omega) (by omega)
      have hkh : k < h.length := by omega
      have hsk := fcTo_succ h v a p q k
      have hlk := fcTo_length h v a p q k
      have a1 := f4 k; have a3 := f5 k
      rw [gi hk1] at a1; rw [gi hkh] at a3
      rw [fcEnd, gi hk1, gi hkh] at hsk
      have m1 := mul_bd (x := v[k]) (y := q) (A := 1000000) (B := 1000000) (by omega) (by omega) (by omega) (by omega)
      have m2 := mul_bd (x := p) (y := a - h[k]) (A := 2000000) (B := 1000000) (by omega) (by omega) (by omega) (by omega)
      have w1 : IntKind.wrap .i64 (v[k] * q) = v[k] * q := wrap_id (by omega) (by omega)
      have w2 : IntKind.wrap .i64 (a - h[k]) = a - h[k] := wrap_id (by omega) (by omega)
      have w3 : IntKind.wrap .i64 (p * (a - h[k])) = p * (a - h[k]) := wrap_id (by omega) (by omega)
      have w4 : IntKind.wrap .i64 (v[k] * q + p * (a - h[k])) = v[k] * q + p * (a - h[k]) := wrap_id (by omega) (by omega)
      generalize hL : fcTo h v a p q k = L at *
      simp -dsimp [hki, hlk]
      repeat' (first | omega | (simp -dsimp [E8, ri, cellp, ints, hki, hk1, hkh, w1, w2, w3, w4, wk, hlk]) | (refine Also.intro ?_ fun _ => ?_) | (refine Hold.intro fun _ => ?_) | (refine And.intro ?_ ?_))
      refine ⟨⟨k + 1, by omega⟩, tle_chain rfl ?_, (by (try simp -dsimp only [hpush_noH, hpush_hps, hps_over]); refine hle_hps ?_; simp -dsimp [allK, hsk, rq]; repeat' (first | (refine And.intro ?_ ?_) | (refine sLe.same ?_ ?_ <;> (simp; done)) | (refine sLe.clear ?_ ?_ <;> (first | (simp; done) | (simp; omega))) | (refine sLe.drop 1 ?_ ?_ ?_ <;> (simp; done)))), by simp only; omega⟩
      simp [okAll, okv]
    have hkn : k = v.length := by omega
    subst hkn
    have hE1 := bestTo_eq (E := fcTo h v a p q v.length) (by rw [fcTo_length]; omega)
    have hEl := fcTo_length h v a p q v.length
    have hbd := fc_pre (a := a) (p := p) (q := q) (slOk_facts b1) ha ⟨by omega, by omega⟩ ⟨by omega, by omega⟩
    rw [← hE1, hEl] at hbd
    generalize fcTo h v a p q v.length = E at *
    rw [← hE1, hEl]
    have hx : 0 < E.length := by omega
    have e0 : E[0]? = some E[0] := List.getElem?_eq_getElem hx
    have hb0 : bestTo E 0 = E[0] := by rw [bestTo]; simp [List.getD, e0]
    rw [← hEl] at hbd ⊢
    obtain ⟨l1, l2, l3, l4⟩ := hbd
    simp -dsimp [hEl]
    repeat' (first | omega | (simp -dsimp [E8, ri, cellp, ints, hEl, hx, e0, rq]) | (refine Also.intro ?_ fun _ => ?_) | (refine Hold.intro fun _ => ?_) | (refine And.intro ?_ ?_))
    refine awp_loop [71, 72, 73, 74, 16, 17, 18, 77, 78, 79, 80, 83, 84, 85, 86, 87, 88, 89, 90, 91, 92, 93, 94, 95, 96, 97, 98, 99, 100, 101, 102, 103, 104, 105, 106, 107, 108, 81, 82, 109, 110, 111, 112, 19, 113, 114, 115, 116, 117, 118, 119, 120, 121, 122, 123, 124, 125, 126, 127, 14, 75, 76, 15] (fun i : Fin (E.length + 1) => [(15, (true, .int .i64 (i.1 : Nat))), (14, (true, .int .i64 (bestTo E i.1)))])
      (fun i => hps [(866, { base := 0, blks := [{ z := 2, els := E.map (rq q), ty := 40 }] })] noH) (fun i => E.length - i.1) ⟨0, by omega⟩ ?_ ?_ ?_
    · simp [okAll, okv, hb0]
    · exact (by (try simp -dsimp only [hpush_noH, hpush_hps, hps_over]); refine hle_hps ?_; simp -dsimp [allK, ]; repeat' (first | (refine And.intro ?_ ?_) | (refine sLe.same ?_ ?_ <;> (simp; done)) | (refine sLe.clear ?_ ?_ <;> (first | (simp; done) | (simp; omega))) | (refine sLe.drop 1 ?_ ?_ ?_ <;> (simp; done))))
    rintro ⟨i, hi⟩
    simp only
    by_cases hi1 : i < E.length
    · have hii : (i : Int) < E.length := by omega
      have wi : IntKind.wrap .i64 ((i : Int) + 1) = (i + 1 : Nat) := wrap_id (by omega) (by omega)
      have ei : E[i]? = some E[i] := List.getElem?_eq_getElem hi1
      have hbs : bestTo E (i + 1) = if midOk E E[i] then E[i] else bestTo E i := by rw [bestTo, gi hi1]
      generalize hxi : E[i] = x at *
      simp -dsimp [hii]
      repeat' (first | omega | (simp -dsimp [E8, ri, cellp, ints, hii]) | (refine Also.intro ?_ fun _ => ?_) | (refine Hold.intro fun _ => ?_) | (refine And.intro ?_ ?_))
      refine awp_loop [77, 78, 79, 80, 83, 84, 85, 86, 87, 88, 89, 90, 91, 92, 93, 94, 95, 16, 96, 97, 98, 99, 100, 101, 102, 103, 104, 105, 106, 107, 108, 17, 81, 82, 18] (fun k : Fin (E.length + 1) => [(18, (true, .int .i64 (k.1 : Nat))), (16, (true, .int .i64 (below (E.take k.1) x : Nat))), (17, (true, .int .i64 (equal (E.take k.1) x : Nat)))])
        (fun k => hps [(866, { base := 0, blks := [{ z := 2, els := E.map (rq q), ty := 40 }] })] noH) (fun k => E.length - k.1) ⟨0, by omega⟩ ?_ ?_ ?_
      · simp [okAll, okv, below, equal]
      · exact (by (try simp -dsimp only [hpush_noH, hpush_hps, hps_over]); refine hle_hps ?_; simp -dsimp [allK, ]; repeat' (first | (refine And.intro ?_ ?_) | (refine sLe.same ?_ ?_ <;> (simp; done)) | (refine sLe.clear ?_ ?_ <;> (first | (simp; done) | (simp; omega))) | (refine sLe.drop 1 ?_ ?_ ?_ <;> (simp; done))))
      rintro ⟨k, hk⟩
      simp only
      have hbl := below_le (E.take k) x
      have hql := equal_le (E.take k) x
      rw [List.length_take] at hbl hql
      by_cases hk1 : k < E.length
      · have hki : (k : Int) < E.length := by omega
        have wk : IntKind.wrap .i64 ((k : Int) + 1) = (k + 1 : Nat) := wrap_id (by omega) (by omega)
        have ek : E[k]? = some E[k] := List.getElem?_eq_getElem hk1
        have hbn := below_take_succ E x hk1
        have hqn := equal_take_succ E x hk1
        have wb : IntKind.wrap .i64 ((below (E.take k) x : Int) + 1) = (below (E.take k) x + 1 : Nat) := wrap_id (by omega) (by omega)
        have wq : IntKind.wrap .i64 ((equal (E.take k) x : Int) + 1) = (equal (E.take k) x + 1 : Nat) := wrap_id (by omega) (by omega)
        generalize hyk : E[k] = y at *
        generalize below (E.take k) x = b at *
        generalize equal (E.take k) x = c at *
        by_cases c1 : y < x
        · have c1' : (y < x) = True := eq_true c1
          have c2 : (y = x) = False := eq_false (by omega)
          rw [if_pos c1] at hbn
          rw [if_neg (by omega)] at hqn
          simp -dsimp [hki]
          repeat' (first | omega | (simp -dsimp [E8, ri, cellp, ints, hki, hii, ei, ek, rq, c1', c2, wk, wb, wq, hk1, hi1]) | (refine Also.intro ?_ fun _ => ?_) | (refine Hold.intro fun _ => ?_) | (refine And.intro ?_ ?_))
          refine ⟨⟨k + 1, by omega⟩, tle_chain rfl ?_, (by (try simp -dsimp only [hpush_noH, hpush_hps, hps_over]); refine hle_hps ?_; simp -dsimp [allK, ]; repeat' (first | (refine And.intro ?_ ?_) | (refine sLe.same ?_ ?_ <;> (simp; done)) | (refine sLe.clear ?_ ?_ <;> (first | (simp; done) | (simp; omega))) | (refine sLe.drop 1 ?_ ?_ ?_ <;> (simp; done)))), by simp only; omega⟩
          simp [okAll, okv, hbn, hqn]
        have c1' : (y < x) = False := eq_false c1
        rw [if_neg c1] at hbn
        by_cases c2 : y = x
        · rw [if_pos c2] at hqn
          have c2' : (y = x) = True := eq_true c2
          simp -dsimp [hki]
          repeat' (first | omega | (simp -dsimp [E8, ri, cellp, ints, hki, hii, ei, ek, rq, c1', c2', wk, wb, wq, hk1, hi1]) | (refine Also.intro ?_ fun _ => ?_) | (refine Hold.intro fun _ => ?_) | (refine And.intro ?_ ?_))
          refine ⟨⟨k + 1, by omega⟩, tle_chain rfl ?_, (by (try simp -dsimp only [hpush_noH, hpush_hps, hps_over]); refine hle_hps ?_; simp -dsimp [allK, ]; repeat' (first | (refine And.intro ?_ ?_) | (refine sLe.same ?_ ?_ <;> (simp; done)) | (refine sLe.clear ?_ ?_ <;> (first | (simp; done) | (simp; omega))) | (refine sLe.drop 1 ?_ ?_ ?_ <;> (simp; done)))), by simp only; omega⟩
          simp [okAll, okv, hbn, hqn]
        · have c2' : (y = x) = False := eq_false c2
          rw [if_neg c2] at hqn
          simp -dsimp [hki]
          repeat' (first | omega | (simp -dsimp [E8, ri, cellp, ints, hki, hii, ei, ek, rq, c1', c2', wk, wb, wq, hk1, hi1]) | (refine Also.intro ?_ fun _ => ?_) | (refine Hold.intro fun _ => ?_) | (refine And.intro ?_ ?_))
          refine ⟨⟨k + 1, by omega⟩, tle_chain rfl ?_, (by (try simp -dsimp only [hpush_noH, hpush_hps, hps_over]); refine hle_hps ?_; simp -dsimp [allK, ]; repeat' (first | (refine And.intro ?_ ?_) | (refine sLe.same ?_ ?_ <;> (simp; done)) | (refine sLe.clear ?_ ?_ <;> (first | (simp; done) | (simp; omega))) | (refine sLe.drop 1 ?_ ?_ ?_ <;> (simp; done)))), by simp only; omega⟩
          simp [okAll, okv, hbn, hqn]
      have hke : k = E.length := by omega
      subst hke
      rw [List.take_length] at *
      have w1 : IntKind.wrap .i64 ((v.length : Int) - 1) = (v.length - 1 : Nat) := by rw [wrap_id (by omega) (by omega)]; omega
      have w2 : ((v.length - 1 : Nat) : Int).tdiv 2 = ((v.length - 1) / 2 : Nat) := by rw [show (2 : Int) = ((2 : Nat) : Int) from rfl, ← Int.ofNat_tdiv]
      have w3 : IntKind.wrap .i64 (((v.length - 1) / 2 : Nat) : Int) = ((v.length - 1) / 2 : Nat) := wrap_id (by omega) (by omega)
      have w4 : IntKind.wrap .i64 ((below E x : Int) + (equal E x : Int)) = (below E x + equal E x : Nat) := wrap_id (by omega) (by omega)
      by_cases hmo : midOk E x
      · rw [if_pos hmo] at hbs
        have c1 : below E x ≤ (v.length - 1) / 2 := by rw [← hEl]; exact hmo.1
        have c2 : (v.length - 1) / 2 < below E x + equal E x := by rw [← hEl]; exact hmo.2
        clear hmo
        generalize below E x = b at *
        generalize equal E x = c at *
        generalize hmi : (v.length - 1) / 2 = mi at *
        have c1' : (b : Int) ≤ mi := by omega
        have c2' : (mi : Int) < ((b + c : Nat) : Int) := by omega
        simp -dsimp
        repeat' (first | omega | (simp -dsimp [E8, ri, cellp, ints, hii, ei, rq, wi, w1, w2, w3, w4, c1', c2', hi1]) | (refine Also.intro ?_ fun _ => ?_) | (refine Hold.intro fun _ => ?_) | (refine And.intro ?_ ?_))
        all_goals
          refine ⟨⟨i + 1, by omega⟩, tle_kept (kept_upds rfl (kept_forget rfl (kept_upds rfl kept_base))) ?_, (by (try simp -dsimp only [hpush_noH, hpush_hps, hps_over]); refine hle_hps ?_; simp -dsimp [allK, ]; repeat' (first | (refine And.intro ?_ ?_) | (refine sLe.same ?_ ?_ <;> (simp; done)) | (refine sLe.clear ?_ ?_ <;> (first | (simp; done) | (simp; omega))) | (refine sLe.drop 1 ?_ ?_ ?_ <;> (simp; done)))), by simp only; omega⟩
          simp [okAll, okv, hbs, hxi]
      · rw [if_neg hmo] at hbs
        have hmo' : ¬ (below E x ≤ (v.length - 1) / 2 ∧ (v.length - 1) / 2 < below E x + equal E x) := by rw [← hEl]; exact hmo
        clear hmo
        generalize below E x = b at *
        generalize equal E x = c at *
        generalize hmi : (v.length - 1) / 2 = mi at *
        by_cases c1 : b ≤ mi
        · have c1' : (b : Int) ≤ mi := by omega
          have c2' : ((mi : Int) < ((b + c : Nat) : Int)) = False := eq_false (by omega)
          simp -dsimp
          repeat' (first | omega | (simp -dsimp [E8, ri, cellp, ints, hii, ei, rq, wi, w1, w2, w3, w4, c1', c2', hi1]) | (refine Also.intro ?_ fun _ => ?_) | (refine Hold.intro fun _ => ?_) | (refine And.intro ?_ ?_))
          all_goals
            refine ⟨⟨i + 1, by omega⟩, tle_kept (kept_upds rfl (kept_forget rfl (kept_upds rfl kept_base))) ?_, (by (try simp -dsimp only [hpush_noH, hpush_hps, hps_over]); refine hle_hps ?_; simp -dsimp [allK, ]; repeat' (first | (refine And.intro ?_ ?_) | (refine sLe.same ?_ ?_ <;> (simp; done)) | (refine sLe.clear ?_ ?_ <;> (first | (simp; done) | (simp; omega))) | (refine sLe.drop 1 ?_ ?_ ?_ <;> (simp; done)))), by simp only; omega⟩
            simp [okAll, okv, hbs, hxi]
        · have c1' : ((b : Int) ≤ mi) = False := eq_false (by omega)
          simp -dsimp
          repeat' (first | omega | (simp -dsimp [E8, ri, cellp, ints, hii, ei, rq, wi, w1, w2, w3, w4, c1', hi1]) | (refine Also.intro ?_ fun _ => ?_) | (refine Hold.intro fun _ => ?_) | (refine And.intro ?_ ?_))
          all_goals
            refine ⟨⟨i + 1, by omega⟩, tle_kept (kept_upds rfl (kept_forget rfl (kept_upds rfl kept_base))) ?_, (by (try simp -dsimp only [hpush_noH, hpush_hps, hps_over]); refine hle_hps ?_; simp -dsimp [allK, ]; repeat' (first | (refine And.intro ?_ ?_) | (refine sLe.same ?_ ?_ <;> (simp; done)) | (refine sLe.clear ?_ ?_ <;> (first | (simp; done) | (simp; omega))) | (refine sLe.drop 1 ?_ ?_ ?_ <;> (simp; done)))), by simp only; omega⟩
            simp [okAll, okv, hbs, hxi]
    have hie : i = E.length := by omega
    subst hie
    simp -dsimp
    repeat' (first | omega | (simp -dsimp [E8, ri, cellp, ints, rq, l1, l2, l3, l4, lowPre]) | (refine Also.intro ?_ fun _ => ?_) | (refine Hold.intro fun _ => ?_) | (refine And.intro ?_ ?_))
theorem ok8 : FnOK Try.prog 8 (.pure ForecastS) := pure_fn (E := E8) rfl (.cons ok13 (.cons ok17 (.cons ok6 (.cons ok15 .nil)))) (ok := []) (fn := Try.f8) (by kernel_rfl) (by kernel_rfl) (by kernel_rfl) (by kernel_rfl) rfl (fun _ _ => by simp) b8
end Go.Sx

