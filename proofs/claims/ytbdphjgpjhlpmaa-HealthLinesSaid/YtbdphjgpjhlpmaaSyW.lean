/- HealthSlopes: the reference's Slope. No conditions. -/
import Derived.Test.YtbdphjgpjhlpmaaSyV2
set_option linter.unusedSimpArgs false
set_option linter.unusedVariables false
set_option maxRecDepth 100000
set_option maxHeartbeats 1000000
namespace Go.Sx
open Go.Proofs Go.Sort

@[simp] theorem toFrs (d : List Frc) : (V.sl 2 (d.map rowF)).toCells.map mkFr = d := by
  have : d.map rowF = (d.map (·.1)).map rowC := by rw [List.map_map]; rfl
  rw [this, toCells_sl, List.map_map]
  have e : (mkFr ∘ fun x : Frc => x.1) = id := funext mkFr_self
  rw [e, List.map_id]
/-- The two medians are equal fractions. -/
theorem med_same {d : List Frc} (h : 1 ≤ d.length) : lowN (medF d).1.1 (medF d).1.2 = lowN ((insS frLt d).getD ((d.length - 1) / 2) default).1.1 ((insS frLt d).getD ((d.length - 1) / 2) default).1.2 ∧ lowD (medF d).1.1 (medF d).1.2 = lowD ((insS frLt d).getD ((d.length - 1) / 2) default).1.1 ((insS frLt d).getD ((d.length - 1) / 2) default).1.2 := by
  have hlt : ltOf frC = frLt := funext fun x => funext fun y => frC_lt x y
  obtain ⟨hp, hs⟩ := frSrt_spec d.toArray
  rw [hlt] at hs
  have hl := frSrt_len d
  have hl2 := insS_length (lt := frLt) d
  have hperm : (frSrt d.toArray).toList.Perm d := by
    have := hp.2.2
    have e1 : ((frSrt d.toArray).extract 0 d.toArray.size).toList = (frSrt d.toArray).toList := by
      have : d.toArray.size = (frSrt d.toArray).size := by simpa using hl.symm
      rw [this, Array.extract_size]
    have e2 : (d.toArray.extract 0 d.toArray.size).toList = d := by rw [Array.extract_size]
    rw [e1, e2] at this
    exact this
  have hasc : Asc frLt (frSrt d.toArray).toList := by
    intro i j hi hj hij
    have := hs i j (Nat.zero_le _) hij (by simpa [hl] using hj)
    simpa [getElem!_pos, show i < (frSrt d.toArray).size by simpa using hi, show j < (frSrt d.toArray).size by simpa using hj] using this
  have hm : (d.length - 1) / 2 < (frSrt d.toArray).toList.length := by omega
  have hm2 : (d.length - 1) / 2 < (insS frLt d).length := by omega
  have pp : (frSrt d.toArray).toList.Perm (insS frLt d) := hperm.trans (insS_perm d).symm
  have a1 := asc_same frSWO hasc (insS_asc frSWO d) pp hm hm2
  have a2 := asc_same frSWO (insS_asc frSWO d) hasc pp.symm hm2 hm
  have g1 : medF d = (frSrt d.toArray).toList[(d.length - 1) / 2] := by rw [medF]; simp [List.getD, List.getElem?_eq_getElem hm]
  have g2 : (insS frLt d).getD ((d.length - 1) / 2) default = (insS frLt d)[(d.length - 1) / 2] := by simp [List.getD, List.getElem?_eq_getElem hm2]
  rw [g1, g2]
  generalize (frSrt d.toArray).toList[(d.length - 1) / 2] = x at *
  generalize (insS frLt d)[(d.length - 1) / 2] = y at *
  simp only [frLt, decide_eq_false_iff_not, Int.not_lt] at a1 a2
  have px := x.2.2.2.1; have py := y.2.2.2.1
  exact low_same (by omega) (by omega) (by omega)
theorem slFr_rowF {h v : List Int} (F : SlF h v) : (slTo h v v.length).map rowC = (slFr h v).map rowF := slFr_rows F
noncomputable abbrev E6 : Env := { P := Try.prog, fn := tbl [(13, .pure timedS), (14, .pure medRS), (15, .pure fracS2)], own := [], key := 600, nt := 65 }
theorem b6 : PureBody E6 [] Try.f6 SlopeS := by
  refine pb ?_
  rintro ⟨h, v⟩ ⟨p1, p2⟩
  simp only at p1 p2
  by_cases b1 : slOk h v = true
  case neg =>
    have b1' : slOk h v = false := by simpa using b1
    simp -dsimp [Try.f6, E6, slR, b1']
    repeat' (first | omega | (simp -dsimp [E6, ri, cellp, ints, p1, p2, b1', slR]) | (refine Also.intro ?_ fun _ => ?_) | (refine Hold.intro fun _ => ?_) | (refine And.intro ?_ ?_))
  by_cases b2 : v.length = 1
  · have b2' : (v.length : Int) = 1 := by omega
    simp -dsimp [Try.f6, E6, slR, b1, b2]
    repeat' (first | omega | (simp -dsimp [E6, ri, cellp, ints, p1, p2, b1, b2, b2', slR]) | (refine Also.intro ?_ fun _ => ?_) | (refine Hold.intro fun _ => ?_) | (refine And.intro ?_ ?_))
  have b3 : 2 ≤ v.length := by have := (slOk_facts b1).n1; omega
  have b2' : ¬ (v.length : Int) = 1 := by omega
  obtain ⟨f1, f2, f3, f4, f5, f6⟩ := slOk_facts b1
  have hrows := slFr_rowF (slOk_facts b1)
  have hsl := slTo_length h v
  have hpos := slTo_pos h v b3
  have hfl : (slFr h v).length = (slTo h v v.length).length := by simp [slFr]
  obtain ⟨ms1, ms2⟩ := med_same (d := slFr h v) (by omega)
  have hres : slR h v = (lowN ((insS frLt (slFr h v)).getD (((slFr h v).length - 1) / 2) default).1.1 ((insS frLt (slFr h v)).getD (((slFr h v).length - 1) / 2) default).1.2, lowD ((insS frLt (slFr h v)).getD (((slFr h v).length - 1) / 2) default).1.1 ((insS frLt (slFr h v)).getD (((slFr h v).length - 1) / 2) default).1.2, 0) := by
    rw [slR, if_pos b1, if_neg b2, ms1, ms2]
  rw [hres]
  clear ms1 ms2 hres
  simp -dsimp [Try.f6, E6, b1, b2']
  repeat' (first | omega | (simp -dsimp [E6, ri, cellp, ints, p1, p2, b1, b2', f1]) | (refine Also.intro ?_ fun _ => ?_) | (refine Hold.intro fun _ => ?_) | (refine And.intro ?_ ?_))
  refine awp_loop_g [(7, 652, 2, 40)] rfl (by simp) [20, 21, 22, 23, 9, 26, 27, 28, 31, 32, 33, 34, 35, 36, 37, 38, 39, 40, 41, 42, 43, 44, 45, 46, 47, 48, 49, 50, 51, 52, 7, 29, 30, 24, 25, 8] (fun k : Fin (v.length + 1) => [(8, (true, .int .i64 (k.1 : Nat))), (7, (true, .bsl 652 0 (slTo h v k.1).length))])
    (fun k => hps [(652, { base := 0, blks := [{ z := 2, els := (slTo h v k.1).map rowC, ty := 40 }] })] noH) (fun k => v.length - k.1) ⟨0, by omega⟩ ?_ ?_ ?_
  · simp [okAll, okv, slTo]
  · exact (by (try simp -dsimp only [hpush_noH, hpush_hps, hps_over]); refine hle_hps ?_; simp -dsimp [allK, slTo]; repeat' (first | (refine And.intro ?_ ?_) | (refine sLe.same ?_ ?_ <;> (simp; done)) | (refine sLe.clear ?_ ?_ <;> (first | (simp; done) | (simp; omega))) | (refine sLe.drop 1 ?_ ?_ ?_ <;> (simp; done))))
  rintro ⟨k, hk⟩
  simp only
  have hlk := hsl k
  have hkk8 : k * k ≤ 8 * 8 := Nat.mul_le_mul (by omega) (by omega)
  by_cases hk1 : k < v.length
  · have hki : (k : Int) < v.length := by omega
    have wk : IntKind.wrap .i64 ((k : Int) + 1) = (k + 1 : Nat) := wrap_id (by omega) (by omega)
    simp -dsimp [hki]
    repeat' (first | omega | (simp -dsimp [E6, ri, cellp, ints, hki]) | (refine Also.intro ?_ fun _ => ?_) | (refine Hold.intro fun _ => ?_) | (refine And.intro ?_ ?_))
    refine awp_loop [26, 27, 28, 31, 32, 33, 34, 35, 36, 37, 38, 39, 40, 41, 42, 43, 44, 45, 46, 47, 48, 49, 50, 51, 52, 7, 29, 30, 9] (fun i : Fin (k + 1) => [(9, (true, .int .i64 (i.1 : Nat))), (7, (true, .bsl 652 0 (slPart h v k i.1).length))])
      (fun i => hps [(652, { base := 0, blks := [{ z := 2, els := (slPart h v k i.1).map rowC, ty := 40 }] })] noH) (fun i => k - i.1) ⟨0, by omega⟩ ?_ ?_ ?_
    · simp [okAll, okv, slPart_zero]
    · exact (by (try simp -dsimp only [hpush_noH, hpush_hps, hps_over]); refine hle_hps ?_; simp -dsimp [allK, slPart_zero]; repeat' (first | (refine And.intro ?_ ?_) | (refine sLe.same ?_ ?_ <;> (simp; done)) | (refine sLe.clear ?_ ?_ <;> (first | (simp; done) | (simp; omega))) | (refine sLe.drop 1 ?_ ?_ ?_ <;> (simp; done))))
    rintro ⟨i, hi⟩
    simp only
    by_cases hi1 : i < k
    · have hii : (i : Int) < k := by omega
      have wi : IntKind.wrap .i64 ((i : Int) + 1) = (i + 1 : Nat) := wrap_id (by omega) (by omega)
      have hri := slPart_succ h v k i
      have hlr := slPart_length h v k i
      have a1 := f4 k; have a2 := f4 i; have a3 := f5 k; have a4 := f5 i
      have hkh : k < h.length := by omega
      have hih : i < h.length := by omega
      have hiv : i < v.length := by omega
      rw [gi hk1, gi hiv, gi hkh, gi hih] at hri
      rw [gi hk1] at a1; rw [gi hiv] at a2; rw [gi hkh] at a3; rw [gi hih] at a4
      have wv : IntKind.wrap .i64 (v[k] - v[i]) = v[k] - v[i] := wrap_id (by omega) (by omega)
      have wh : IntKind.wrap .i64 (h[k] - h[i]) = h[k] - h[i] := wrap_id (by omega) (by omega)
      have hb16 : ((slPart h v k i).length + 1) * 16 ≤ 140737488355328 := by rw [hlr]; omega
      clear hlk
      generalize slPart h v k i = L at *
      simp -dsimp [hii]
      repeat' (first | omega | (simp -dsimp [E6, ri, cellp, ints, hii, hk1, hkh, hih, hiv, wv, wh, hb16, wi]) | (refine Also.intro ?_ fun _ => ?_) | (refine Hold.intro fun _ => ?_) | (refine And.intro ?_ ?_))
      refine ⟨⟨i + 1, by omega⟩, tle_chain rfl ?_, (by (try simp -dsimp only [hpush_noH, hpush_hps, hps_over]); refine hle_hps ?_; simp -dsimp [allK, hri, rowC]; repeat' (first | (refine And.intro ?_ ?_) | (refine sLe.same ?_ ?_ <;> (simp; done)) | (refine sLe.clear ?_ ?_ <;> (first | (simp; done) | (simp; omega))) | (refine sLe.drop 1 ?_ ?_ ?_ <;> (simp; done)))), by simp only; omega⟩
      simp [okAll, okv, hri]
    have hik : i = k := by omega
    subst hik
    rw [slPart_full]
    simp -dsimp
    repeat' (first | omega | (simp -dsimp [E6, ri, cellp, ints, wk]) | (refine Also.intro ?_ fun _ => ?_) | (refine Hold.intro fun _ => ?_) | (refine And.intro ?_ ?_))
    refine ⟨⟨i + 1, by omega⟩, tle_kept (kept_upds rfl (kept_forget rfl (kept_upds rfl kept_base))) ?_, (by (try simp -dsimp only [hpush_noH, hpush_hps, hps_over]); refine hle_hps ?_; simp -dsimp [allK, ]; repeat' (first | (refine And.intro ?_ ?_) | (refine sLe.same ?_ ?_ <;> (simp; done)) | (refine sLe.clear ?_ ?_ <;> (first | (simp; done) | (simp; omega))) | (refine sLe.drop 1 ?_ ?_ ?_ <;> (simp; done)))), by simp only; omega⟩
    simp [okAll, okv]
  have hkn : k = v.length := by omega
  subst hkn
  rw [hrows, ← hfl]
  rw [← hfl] at hpos hlk
  generalize slFr h v = d at *
  obtain ⟨l1, l2, l3, l4⟩ := low_pre ((insS frLt d).getD ((d.length - 1) / 2) default)
  simp only [List.getD_eq_getElem?_getD] at l1 l2 l3 l4
  have hd1 : 1 ≤ d.length ∧ d.length ≤ 1000000 := ⟨hpos, by omega⟩
  have hrow : ∀ x : Frc, rowF x = [.int .i64 x.1.1, .int .i64 x.1.2] := fun _ => rfl
  simp -dsimp
  repeat' (first | omega | (simp -dsimp [E6, ri, cellp, ints, hd1, l1, l2, l3, l4, hrow, lowPre]) | (refine Also.intro ?_ fun _ => ?_) | (refine Hold.intro fun _ => ?_) | (refine And.intro ?_ ?_))
theorem ok6 : FnOK Try.prog 6 (.pure SlopeS) := pure_fn (E := E6) rfl (.cons ok13 (.cons ok14 (.cons ok15 .nil))) (ok := []) (fn := Try.f6) (by kernel_rfl) (by kernel_rfl) (by kernel_rfl) (by kernel_rfl) rfl (fun _ _ => by simp) b6
end Go.Sx

