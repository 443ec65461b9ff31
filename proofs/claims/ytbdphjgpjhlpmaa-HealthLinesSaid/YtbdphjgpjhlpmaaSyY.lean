/- HealthSlopes: Forecast. No conditions. -/
import Derived.Test.YtbdphjgpjhlpmaaSyX
set_option linter.unusedSimpArgs false
set_option linter.unusedVariables false
set_option maxRecDepth 100000
set_option maxHeartbeats 1000000
namespace Go.Sx
open Go.Proofs

noncomputable def fcR (h v : List Int) (a : Int) : Int × Int × Int :=
  if slOk h v && withinB a 0 1000000 then (if v.length = 1 then (0, 0, 3) else
    let p := lowN (medF (slFr h v)).1.1 (medF (slFr h v)).1.2
    let q := lowD (medF (slFr h v)).1.1 (medF (slFr h v)).1.2
    (lowN (fcM (fcTo h v a p q v.length)) q, lowD (fcM (fcTo h v a p q v.length)) q, 0)) else (0, 0, 1)
noncomputable abbrev ForecastS : PSpec := { chkSlS with res := fun d => .tup [.int .i64 (fcR d.1 d.2.1 d.2.2).1, .int .i64 (fcR d.1 d.2.1 d.2.2).2.1, .int .i64 (fcR d.1 d.2.1 d.2.2).2.2] }
theorem insort_go {h : Hp} {s i n : Nat} {B : Blk} {d : List Int} (hB : hget h s i = some B) (c1 : B.fz = false) (c2 : B.z = 1) (c3 : B.ty = 3) (c4 : n = d.length) (c5 : 1 ≤ n) (c6 : n < 4611686018427387904) (hd : B.els = d.map ri) :
    inSortS.go [.bsl s i n] h = ⟨True, .tup [], hset h s i { B with els := (inSrt d.toArray).toList.map ri }⟩ := by
  have hun : B.els.map (unR inL) = d := by
    rw [hd, List.map_map]
    have : (unR inL ∘ ri) = id := funext fun x => unR_R (l := inL) (fun x y h => by simpa [inL] using h) x
    rw [this, List.map_id]
  simp only [inSortS, sortS, hB, hun]
  congr 1
  exact eq_true ⟨trivial, c1, c2, c3, by rw [c4, hd, List.length_map], c5, c6, d, hd⟩
noncomputable abbrev E7 : Env := { P := Try.prog, fn := tbl [(10, .pure chkSlS), (11, .pure slopeS), (12, .pure fracS), (16, .heap inSortS)], own := [], key := 700, nt := 74 }
theorem b7 : PureBody E7 [] Try.f7 ForecastS := by
  refine pb ?_
  rintro ⟨h, v, a⟩ ⟨p1, p2⟩
  simp only at p1 p2
  by_cases b1 : slOk h v = true
  case neg =>
    have b1' : slOk h v = false := by simpa using b1
    simp -dsimp [Try.f7, E7, fcR, b1']
    repeat' (first | omega | (simp -dsimp [E7, ri, cellp, ints, p1, p2, b1', fcR]) | (refine Also.intro ?_ fun _ => ?_) | (refine Hold.intro fun _ => ?_) | (refine And.intro ?_ ?_))
  by_cases b0 : withinB a 0 1000000 = true
  case neg =>
    have b0' : withinB a 0 1000000 = false := by simpa using b0
    simp -dsimp [Try.f7, E7, fcR, b1, b0']
    repeat' (first | omega | (simp -dsimp [E7, ri, cellp, ints, p1, p2, b1, b0', fcR]) | (refine Also.intro ?_ fun _ => ?_) | (refine Hold.intro fun _ => ?_) | (refine And.intro ?_ ?_))
  by_cases b2 : v.length = 1
  · have b2' : (v.length : Int) = 1 := by omega
    simp -dsimp [Try.f7, E7, fcR, b1, b0, b2]
    repeat' (first | omega | (simp -dsimp [E7, ri, cellp, ints, p1, p2, b1, b0, b2, b2', fcR]) | (refine Also.intro ?_ fun _ => ?_) | (refine Hold.intro fun _ => ?_) | (refine And.intro ?_ ?_))
  obtain ⟨f1, f2, f3, f4, f5, f6⟩ := slOk_facts b1
  have b3 : 2 ≤ v.length := by omega
  have ha : 0 ≤ a ∧ a ≤ 1000000 := by simpa [withinB] using b0
  have hlp := low_pre (medF (slFr h v))
  obtain ⟨q1, q2, q3, q4⟩ := low_bounds (medF (slFr h v))
  have hres : fcR h v a = (lowN (fcM (fcTo h v a (lowN (medF (slFr h v)).1.1 (medF (slFr h v)).1.2) (lowD (medF (slFr h v)).1.1 (medF (slFr h v)).1.2) v.length)) (lowD (medF (slFr h v)).1.1 (medF (slFr h v)).1.2), lowD (fcM (fcTo h v a (lowN (medF (slFr h v)).1.1 (medF (slFr h v)).1.2) (lowD (medF (slFr h v)).1.1 (medF (slFr h v)).1.2) v.length)) (lowD (medF (slFr h v)).1.1 (medF (slFr h v)).1.2), 0) := by
    rw [fcR, b1, b0, if_pos (by rfl), if_neg b2]
  rw [hres]
  clear hres
  generalize hm : medF (slFr h v) = m at *
  generalize hp : lowN m.1.1 m.1.2 = p at *
  generalize hq : lowD m.1.1 m.1.2 = q at *
  simp -dsimp [Try.f7, E7, b1, b0, b2]
  repeat' (first | omega | (simp -dsimp [E7, ri, cellp, ints, p1, p2, b1, b0, b2, b3, hm, hlp, hp, hq, intR, frL]) | (refine Also.intro ?_ fun _ => ?_) | (refine Hold.intro fun _ => ?_) | (refine And.intro ?_ ?_))
  refine awp_loop_g [(11, 754, 1, 3)] rfl (by simp) [34, 35, 36, 37, 12, 13, 38, 39, 40, 41, 42, 43, 44, 45, 46, 47, 48, 49, 50, 51, 52, 53, 54, 11, 55, 33] (fun k : Fin (v.length + 1) => [(33, (true, .int .i64 (k.1 : Nat))), (11, (true, .bsl 754 0 k.1))])
    (fun k => hps [(754, { base := 0, blks := [{ z := 1, els := (fcTo h v a p q k.1).map ri, ty := 3 }] }), (710, { base := 0, blks := [{ z := 2, els := [[.int .i64 p, .int .i64 q]], ty := 35 }] })] noH) (fun k => v.length - k.1) ⟨0, by omega⟩ ?_ ?_ ?_
  · simp [okAll, okv]
  · exact (by (try simp -dsimp only [hpush_noH, hpush_hps, hps_over]); refine hle_hps ?_; simp -dsimp [allK, fcTo]; repeat' (first | (refine And.intro ?_ ?_) | (refine sLe.same ?_ ?_ <;> (simp; done)) | (refine sLe.clear ?_ ?_ <;> (first | (simp; done) | (simp; omega))) | (refine sLe.drop 1 ?_ ?_ ?_ <;> (simp; done))))
  · rintro ⟨k, hk⟩
    simp only
    by_cases hk1 : k < v.length
    · have hki : (k : Int) < v.length := by omega
      have wk : IntKind.wrap .i64 ((k : Int) + 1) = (k + 1 : Nat) := wrap_id (by omega) (by omega)
      have hkh : k < h.length := by omega
      have hsk := fcTo_succ h v a p q k
      have hlk := fcTo_length h v a p q k
      have a1 := f4 k; have a3 := f5 k
      rw [gi hk1] at a1; rw [gi hkh] at a3
      rw [fcEnd, gi hk1, gi hkh] at hsk
      have m1 := mul_bd (x := v[k]) (y := q) (A := 1000000) (B := 1000000) (by omega) (by omega) (by omega) (by omega)
      have m2 := mul_bd (x := p) (y := a - h[k]) (A := 2000000) (B := 1000000) (by omega) (by omega) (by omega) (by omega)
      have w1 : IntKind.wrap .i64 (v[k] * q) = v[k] * q := wrap_id (by omega) (by omega)
      have w2 : IntKind.wrap .i64 (a - h[k]) = a - h[k] := wrap_id (by omega) (by omega)
      have w3 : IntKind.wrap .i64 (p * (a - h[k])) = p * (a - h[k]) := wrap_id (by omega) (by omega)
      have w4 : IntKind.wrap .i64 (v[k] * q + p * (a - h[k])) = v[k] * q + p * (a - h[k]) := wrap_id (by omega) (by omega)
      generalize hL : fcTo h v a p q k = L at *
      simp -dsimp [hki, hlk]
      repeat' (first | omega | (simp -dsimp [E7, ri, cellp, ints, hki, hk1, hkh, w1, w2, w3, w4, wk, hlk]) | (refine Also.intro ?_ fun _ => ?_) | (refine Hold.intro fun _ => ?_) | (refine And.intro ?_ ?_))
      refine ⟨⟨k + 1, by omega⟩, tle_chain rfl ?_, (by (try simp -dsimp only [hpush_noH, hpush_hps, hps_over]); refine hle_hps ?_; simp -dsimp [allK, hsk, ri]; repeat' (first | (refine And.intro ?_ ?_) | (refine sLe.same ?_ ?_ <;> (simp; done)) | (refine sLe.clear ?_ ?_ <;> (first | (simp; done) | (simp; omega))) | (refine sLe.drop 1 ?_ ?_ ?_ <;> (simp; done)))), by simp only; omega⟩
      simp [okAll, okv]
    have hkn : k = v.length := by omega
    subst hkn
    have hEl := fcTo_length h v a p q v.length
    have hmid := mid_ok (E := fcTo h v a p q v.length) (by rw [hEl]; omega)
    have hgo := insort_go (h := hps [(754, { base := 0, blks := [{ z := 1, els := (fcTo h v a p q v.length).map ri, ty := 3 }] }), (710, { base := 0, blks := [{ z := 2, els := [[.int .i64 p, .int .i64 q]], ty := 35 }] })] noH) (s := 754) (i := 0) (n := v.length) (d := fcTo h v a p q v.length) (B := { z := 1, els := (fcTo h v a p q v.length).map ri, ty := 3 }) (by simp [hget_hps, hps_cons]) rfl rfl rfl hEl.symm (by omega) (by omega) rfl
    have hSl := inSrt_len (fcTo h v a p q v.length)
    have hfm : fcM (fcTo h v a p q v.length) = (inSrt (fcTo h v a p q v.length).toArray).toList.getD ((v.length - 1) / 2) 0 := by rw [fcM, hEl]
    have hbd : lowPre (fcM (fcTo h v a p q v.length)) q := by
      have hm := hmid.1
      unfold fcTo at hm
      obtain ⟨i, hi, e⟩ := List.mem_map.1 hm
      have e' : fcM (fcTo h v a p q v.length) = fcEnd h v a p q i := e.symm
      have a1 := f4 i; have a3 := f5 i
      have m1 := mul_bd (x := v.getD i 0) (y := q) (A := 1000000) (B := 1000000) (by omega) (by omega) (by omega) (by omega)
      have m2 := mul_bd (x := p) (y := a - h.getD i 0) (A := 2000000) (B := 1000000) (by omega) (by omega) (by omega) (by omega)
      refine ⟨by omega, by omega, ?_, ?_⟩ <;> rw [e', fcEnd] <;> omega
    clear hmid
    have hm : (v.length - 1) / 2 < (inSrt (fcTo h v a p q v.length).toArray).toList.length := by omega
    have hmi : (((v.length - 1) / 2 : Nat) : Int) < v.length := by omega
    have hmid := List.getElem?_eq_getElem hm
    have hfm2 : fcM (fcTo h v a p q v.length) = (inSrt (fcTo h v a p q v.length).toArray).toList[(v.length - 1) / 2] := by
      rw [hfm]; simp only [List.getD, hmid, Option.getD_some]
    rw [hfm2] at hbd ⊢
    clear hfm hfm2
    generalize hE : fcTo h v a p q v.length = E at *
    generalize hS : (inSrt E.toArray).toList = S at *
    have w1 : IntKind.wrap .i64 ((v.length : Int) - 1) = (v.length - 1 : Nat) := by rw [wrap_id (by omega) (by omega)]; omega
    have w2 : ((v.length - 1 : Nat) : Int).tdiv 2 = ((v.length - 1) / 2 : Nat) := by rw [show (2 : Int) = ((2 : Nat) : Int) from rfl, ← Int.ofNat_tdiv]
    have w3 : IntKind.wrap .i64 (((v.length - 1) / 2 : Nat) : Int) = ((v.length - 1) / 2 : Nat) := wrap_id (by omega) (by omega)
    have hSn : S.length = v.length := by omega
    generalize hq2 : (v.length - 1) / 2 = mi at *
    simp -dsimp
    repeat' (first | omega | (simp -dsimp [E7, ri, cellp, ints, hgo, w1, w2, w3, hmi, hmid, hm, hSn, hbd]) | (refine Also.intro ?_ fun _ => ?_) | (refine Hold.intro fun _ => ?_) | (refine And.intro ?_ ?_))
theorem ok7 : FnOK Try.prog 7 (.pure ForecastS) := pure_fn (E := E7) rfl (.cons ok10 (.cons ok11 (.cons ok12 (.cons ok16 .nil)))) (ok := []) (fn := Try.f7) (by kernel_rfl) (by kernel_rfl) (by kernel_rfl) (by kernel_rfl) rfl (fun _ _ => by simp) b7
end Go.Sx

