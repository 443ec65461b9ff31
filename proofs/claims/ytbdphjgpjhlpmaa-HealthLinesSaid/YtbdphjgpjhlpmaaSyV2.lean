/- HealthSlopes: Slope; the reference's median. No conditions. -/
import Derived.Test.YtbdphjgpjhlpmaaSyU
set_option linter.unusedSimpArgs false
set_option linter.unusedVariables false
set_option maxRecDepth 100000
set_option maxHeartbeats 1000000
namespace Go.Sx
open Go.Proofs

theorem low_pre (x : Frc) : lowPre x.1.1 x.1.2 := by
  obtain ⟨h1, h2, h3, h4⟩ := x.2
  exact ⟨by omega, by omega, by omega, by omega⟩
noncomputable def slR (h v : List Int) : Int × Int × Int := if slOk h v then (if v.length = 1 then (0, 0, 3) else (lowN (medF (slFr h v)).1.1 (medF (slFr h v)).1.2, lowD (medF (slFr h v)).1.1 (medF (slFr h v)).1.2, 0)) else (0, 0, 1)
noncomputable abbrev SlopeS : PSpec := { sameS with res := fun d => .tup [.int .i64 (slR d.1 d.2).1, .int .i64 (slR d.1 d.2).2.1, .int .i64 (slR d.1 d.2).2.2] }
noncomputable abbrev E5 : Env := { P := Try.prog, fn := tbl [(10, .pure chkSlS), (11, .pure slopeS), (12, .pure fracS)], own := [], key := 500, nt := 23 }
theorem b5 : PureBody E5 [] Try.f5 SlopeS := by
  refine pb ?_
  rintro ⟨h, v⟩ ⟨p1, p2⟩
  simp only at p1 p2
  have hw : withinB 0 0 1000000 = true := by decide
  by_cases a1 : slOk h v = true
  case neg =>
    have a1' : slOk h v = false := by simpa using a1
    simp -dsimp [Try.f5, E5, slR, a1']
    repeat' (first | omega | (simp -dsimp [E5, ri, cellp, ints, p1, p2, a1', hw, slR]) | (refine Also.intro ?_ fun _ => ?_) | (refine Hold.intro fun _ => ?_) | (refine And.intro ?_ ?_))
  by_cases a2 : v.length = 1
  · have a2' : (v.length : Int) = 1 := by omega
    simp -dsimp [Try.f5, E5, slR, a1, a2]
    repeat' (first | omega | (simp -dsimp [E5, ri, cellp, ints, p1, p2, a1, a2, a2', hw, slR]) | (refine Also.intro ?_ fun _ => ?_) | (refine Hold.intro fun _ => ?_) | (refine And.intro ?_ ?_))
  have a3 : 2 ≤ v.length := by have := (slOk_facts a1).n1; omega
  have hlp := low_pre (medF (slFr h v))
  generalize hm : medF (slFr h v) = m at *
  simp -dsimp [Try.f5, E5, slR, a1, a2, hm]
  repeat' (first | omega | (simp -dsimp [E5, ri, cellp, ints, p1, p2, a1, a2, a3, hw, slR, hm, hlp, intR, frL]) | (refine Also.intro ?_ fun _ => ?_) | (refine Hold.intro fun _ => ?_) | (refine And.intro ?_ ?_))
theorem ok5 : FnOK Try.prog 5 (.pure SlopeS) := pure_fn (E := E5) rfl (.cons ok10 (.cons ok11 (.cons ok12 .nil))) (ok := []) (fn := Try.f5) (by kernel_rfl) (by kernel_rfl) (by kernel_rfl) (by kernel_rfl) rfl (fun _ _ => by simp) b5
def rowF (x : Frc) : List V := rowC x.1
abbrev medRS : PSpec := { dom := List Frc, enc := fun d => [.sl 2 (d.map rowF)], dec := fun l => ((l.getD 0 .top).toCells).map mkFr, pre := fun d => 1 ≤ d.length ∧ d.length ≤ 1000000, res := fun d => .agg (rowF ((insS frLt d).getD ((d.length - 1) / 2) default)) }
noncomputable abbrev E14 : Env := { P := Try.prog, fn := tbl [], own := [], key := 1400, nt := 68 }
theorem b14 : PureBody E14 [] Try.f14 medRS := by
  refine pb ?_
  rintro d ⟨p1, p2⟩
  have hb16 : d.length * 16 ≤ 140737488355328 := by omega
  have hlen := fun i => insTo_length (lt := frLt) d i
  have hd0 : ¬ d = [] := by intro e; rw [e] at p1; simp at p1
  simp -dsimp [Try.f14, E14]
  repeat' (first | omega | (simp -dsimp [E14, ri, cellp, ints, p1, hb16, hd0]) | (refine Also.intro ?_ fun _ => ?_) | (refine Hold.intro fun _ => ?_) | (refine And.intro ?_ ?_))
  refine awp_loop [7, 8, 9, 10, 13, 4, 14, 15, 16, 17, 18, 19, 20, 21, 22, 23, 24, 25, 26, 27, 28, 29, 30, 31, 32, 33, 34, 35, 36, 37, 38, 39, 40, 41, 42, 45, 46, 47, 48, 49, 50, 51, 52, 53, 54, 55, 56, 57, 58, 59, 60, 43, 44, 11, 12, 3] (fun i : { i : Nat // 1 ≤ i ∧ i ≤ d.length } => [(3, (true, .int .i64 (i.1 : Nat)))])
    (fun i => hps [(1406, { base := 0, blks := [{ z := 2, els := (insTo frLt d i.1).map rowF, ty := 40 }] }), (1402, { base := 0, blks := [{ z := 2, els := [[.int .i64 0, .int .i64 0]], ty := 40 }] })] noH) (fun i => d.length - i.1) ⟨1, by omega, by omega⟩ ?_ ?_ ?_
  · simp [okAll, okv]
  · exact (by (try simp -dsimp only [hpush_noH, hpush_hps, hps_over]); refine hle_hps ?_; simp -dsimp [allK, insTo, sink]; repeat' (first | (refine And.intro ?_ ?_) | (refine sLe.same ?_ ?_ <;> (simp; done)) | (refine sLe.clear ?_ ?_ <;> (first | (simp; done) | (simp; omega))) | (refine sLe.drop 1 ?_ ?_ ?_ <;> (simp; done))))
  rintro ⟨i, hi0, hi⟩
  simp only
  by_cases hi1 : i < d.length
  · have hii : (i : Int) < d.length := by omega
    have wi : IntKind.wrap .i64 ((i : Int) + 1) = (i + 1 : Nat) := wrap_id (by omega) (by omega)
    simp -dsimp [hii, hlen]
    repeat' (first | omega | (simp -dsimp [E14, ri, cellp, ints, hii, hlen]) | (refine Also.intro ?_ fun _ => ?_) | (refine Hold.intro fun _ => ?_) | (refine And.intro ?_ ?_))
    refine awp_loop [14, 15, 16, 17, 18, 19, 20, 21, 22, 23, 24, 25, 26, 27, 28, 29, 30, 31, 32, 33, 34, 35, 36, 37, 38, 39, 40, 41, 42, 45, 46, 47, 48, 49, 50, 51, 52, 53, 54, 55, 56, 57, 58, 59, 60, 43, 44, 4] (fun p : { p : Nat × List Frc // p.1 ≤ i ∧ p.2.length = d.length ∧ sink frLt p.1 p.2 = insTo frLt d (i + 1) } => [(4, (true, .int .i64 (p.1.1 : Nat)))])
      (fun p => hps [(1406, { base := 0, blks := [{ z := 2, els := p.1.2.map rowF, ty := 40 }] }), (1402, { base := 0, blks := [{ z := 2, els := [[.int .i64 0, .int .i64 0]], ty := 40 }] })] noH) (fun p => p.1.1) ⟨(i, insTo frLt d i), Nat.le_refl _, hlen i, rfl⟩ ?_ ?_ ?_
    · simp [okAll, okv]
    · exact (by (try simp -dsimp only [hpush_noH, hpush_hps, hps_over]); refine hle_hps ?_; simp -dsimp [allK, ]; repeat' (first | (refine And.intro ?_ ?_) | (refine sLe.same ?_ ?_ <;> (simp; done)) | (refine sLe.clear ?_ ?_ <;> (first | (simp; done) | (simp; omega))) | (refine sLe.drop 1 ?_ ?_ ?_ <;> (simp; done))))
    rintro ⟨⟨k, L⟩, hk, hL, hs⟩
    simp only at hk hL hs ⊢
    have hrow : ∀ x : Frc, rowF x = [.int .i64 x.1.1, .int .i64 x.1.2] := fun _ => rfl
    by_cases hk0 : k = 0
    · subst hk0
      rw [sink] at hs
      subst hs
      simp -dsimp
      repeat' (first | omega | (simp -dsimp [E14, ri, cellp, ints, wi]) | (refine Also.intro ?_ fun _ => ?_) | (refine Hold.intro fun _ => ?_) | (refine And.intro ?_ ?_))
      refine ⟨i + 1, tle_kept (kept_upds rfl (kept_forget rfl (kept_upds rfl kept_base))) ?_, (by (try simp -dsimp only [hpush_noH, hpush_hps, hps_over]); refine hle_hps ?_; simp -dsimp [allK, ]; repeat' (first | (refine And.intro ?_ ?_) | (refine sLe.same ?_ ?_ <;> (simp; done)) | (refine sLe.clear ?_ ?_ <;> (first | (simp; done) | (simp; omega))) | (refine sLe.drop 1 ?_ ?_ ?_ <;> (simp; done)))), ⟨by omega, by omega⟩, by omega⟩
      simp [okAll, okv]
    obtain ⟨k', rfl⟩ : ∃ k', k = k' + 1 := ⟨k - 1, by omega⟩
    have hkp : (0 : Int) < ((k' + 1 : Nat) : Int) := by omega
    have wk : IntKind.wrap .i64 (((k' + 1 : Nat) : Int) - 1) = (k' : Nat) := by rw [wrap_id (by omega) (by omega)]; omega
    have wk2 : IntKind.wrap .i64 (k' : Int) = (k' : Nat) := wrap_id (by omega) (by omega)
    have hk1 : k' + 1 < L.length := by omega
    have hk2 : k' < L.length := by omega
    have e1 : L[k' + 1]? = some L[k' + 1] := List.getElem?_eq_getElem hk1
    have e2 : L[k']? = some L[k'] := List.getElem?_eq_getElem hk2
    have g1 : L.getD (k' + 1) default = L[k' + 1] := by simp [List.getD, e1]
    have g2 : L.getD k' default = L[k'] := by simp [List.getD, e2]
    have m1 := fr_mul L[k' + 1] L[k']
    have m2 := fr_mul L[k'] L[k' + 1]
    have hsw : sw L k' = (L.set (k' + 1) L[k']).set k' L[k' + 1] := by rw [sw, g1, g2]
    have hsl := sw_length L k'
    rw [sink, g1, g2] at hs
    generalize hx : L[k' + 1] = x at *
    generalize hy : L[k'] = y at *
    by_cases hlt : x.1.1 * y.1.2 < y.1.1 * x.1.2
    · rw [if_pos (by simpa [frLt] using hlt)] at hs
      have hmap : ((L.map rowF).set (k' + 1) (rowF y)).set k' (rowF x) = (sw L k').map rowF := by rw [hsw, List.map_set, List.map_set]
      rw [hrow, hrow] at hmap
      simp -dsimp [hkp]
      repeat' (first | omega | (simp -dsimp [E14, ri, cellp, ints, hkp, hrow, wk, wk2, hk1, hk2, e1, e2, m1, m2, hlt, hmap, hL]) | (refine Also.intro ?_ fun _ => ?_) | (refine Hold.intro fun _ => ?_) | (refine And.intro ?_ ?_))
      refine ⟨k', tle_chain rfl ?_, sw L k', (by (try simp -dsimp only [hpush_noH, hpush_hps, hps_over]); refine hle_hps ?_; simp -dsimp [allK, ]; repeat' (first | (refine And.intro ?_ ?_) | (refine sLe.same ?_ ?_ <;> (simp; done)) | (refine sLe.clear ?_ ?_ <;> (first | (simp; done) | (simp; omega))) | (refine sLe.drop 1 ?_ ?_ ?_ <;> (simp; done)))), ⟨by omega, by omega, hs⟩, by omega⟩
      simp [okAll, okv]
    · rw [if_neg (by simpa [frLt] using hlt)] at hs
      have hltf : (x.1.1 * y.1.2 < y.1.1 * x.1.2) = False := eq_false hlt
      simp -dsimp [hkp]
      repeat' (first | omega | (simp -dsimp [E14, ri, cellp, ints, hkp, hrow, wk, wk2, wi, hk1, hk2, hx, hy, m1, m2, hltf]) | (refine Also.intro ?_ fun _ => ?_) | (refine Hold.intro fun _ => ?_) | (refine And.intro ?_ ?_))
      refine ⟨i + 1, tle_kept (kept_upds rfl (kept_forget rfl (kept_upds rfl kept_base))) ?_, (by (try simp -dsimp only [hpush_noH, hpush_hps, hps_over]); refine hle_hps ?_; simp -dsimp [allK, ← hs]; repeat' (first | (refine And.intro ?_ ?_) | (refine sLe.same ?_ ?_ <;> (simp; done)) | (refine sLe.clear ?_ ?_ <;> (first | (simp; done) | (simp; omega))) | (refine sLe.drop 1 ?_ ?_ ?_ <;> (simp; done)))), ⟨by omega, by omega⟩, by omega⟩
      simp [okAll, okv]
  have hin : i = d.length := by omega
  subst hin
  have hS : insTo frLt d d.length = insS frLt d := rfl
  have hSl := insS_length (lt := frLt) d
  rw [hS]
  generalize insS frLt d = S at *
  have w1 : IntKind.wrap .i64 ((S.length : Int) - 1) = (S.length - 1 : Nat) := by rw [wrap_id (by omega) (by omega)]; omega
  have w2 : ((S.length - 1 : Nat) : Int).tdiv 2 = ((S.length - 1) / 2 : Nat) := by rw [show (2 : Int) = ((2 : Nat) : Int) from rfl, ← Int.ofNat_tdiv]
  have w3 : IntKind.wrap .i64 (((S.length - 1) / 2 : Nat) : Int) = ((S.length - 1) / 2 : Nat) := wrap_id (by omega) (by omega)
  have hm : (S.length - 1) / 2 < S.length := by omega
  have hlt : ¬ (S.length : Int) < S.length := by omega
  rw [← hSl]
  generalize hq : (S.length - 1) / 2 = q at *
  have hSq : S[q]? = some S[q] := List.getElem?_eq_getElem hm
  have hrow : ∀ x : Frc, rowF x = [.int .i64 x.1.1, .int .i64 x.1.2] := fun _ => rfl
  simp -dsimp [hlt]
  repeat' (first | omega | (simp -dsimp [E14, ri, cellp, ints, hlt, w1, w2, w3, hm, hSq, hrow]) | (refine Also.intro ?_ fun _ => ?_) | (refine Hold.intro fun _ => ?_) | (refine And.intro ?_ ?_))
theorem ok14 : FnOK Try.prog 14 (.pure medRS) := pure_fn (E := E14) rfl LOK.nil (ok := []) (fn := Try.f14) (by kernel_rfl) (by kernel_rfl) (by kernel_rfl) (by kernel_rfl) rfl (fun _ _ => by simp) b14
end Go.Sx

