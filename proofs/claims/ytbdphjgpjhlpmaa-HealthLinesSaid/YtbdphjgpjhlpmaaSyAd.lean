/- HealthLines: the law. No conditions. -/
import Derived.Test.YtbdphjgpjhlpmaaSyAc
set_option linter.unusedSimpArgs false
set_option linter.unusedVariables false
set_option maxRecDepth 100000
set_option maxHeartbeats 1000000
namespace Go.Sx
open Go.Proofs

structure LnD where
  val : Int
  slope : Int
  odd : Int
  other : Int
def lnV (d : LnD) : V := .agg [.int .i64 d.val, .int .i64 d.slope, .int .i64 d.odd, .int .i64 d.other]
def V.toLn (v : V) : LnD := ⟨(v.cs.getD 0 .top).toInt, (v.cs.getD 1 .top).toInt, (v.cs.getD 2 .top).toInt, (v.cs.getD 3 .top).toInt⟩
noncomputable abbrev trueLnS : PSpec := { dom := List Int × LnD × Int, enc := fun d => [ints d.1, lnV d.2.1, .int .i64 d.2.2], dec := fun l => ((l.getD 0 .top).toInts, (l.getD 1 .top).toLn, (l.getD 2 .top).toInt), pre := fun d => d.1.length ≤ 9223372036854775807, res := fun _ => .bool true }
noncomputable abbrev E4 : Env := { P := Try.prog, fn := tbl [(5, .pure SlopeS), (7, .pure ForecastS), (9, .pure worksS)], own := [], key := 400, nt := 200 }
theorem b4 : PureBody E4 [] Try.f4 trueLnS := by
  refine pb ?_
  rintro ⟨h, ⟨V, S, odd, other⟩, a⟩ p1
  simp only at p1
  have hn : IntKind.wrap .i64 (-1000) = -1000 := by decide
  simp -dsimp [Try.f4, E4, lnV]
  repeat' (first | omega | (simp -dsimp [E4, ri, cellp, ints, p1, hn]) | (refine Also.intro ?_ fun _ => ?_) | (refine Hold.intro fun _ => ?_) | (refine And.intro ?_ ?_))
  rename_i g
  obtain ⟨⟨⟨⟨⟨⟨⟨g1, g2⟩, g3⟩, g4⟩, g5⟩, g6⟩, g7⟩, g8⟩ := g
  refine awp_loop_g [(7, 499, 1, 3)] rfl (by simp) [52, 53, 54, 55, 58, 59, 60, 61, 62, 63, 64, 65, 66, 67, 68, 69, 70, 71, 72, 73, 74, 75, 76, 77, 78, 79, 80, 81, 82, 83, 84, 85, 86, 6, 87, 88, 89, 90, 91, 92, 93, 94, 95, 96, 97, 98, 99, 7, 56, 57, 8] (fun k : { k : Nat // k ≤ h.length ∧ (∀ j (hj : j < h.length), j < k → 0 ≤ h[j] ∧ h[j] ≤ 900) ∧ ∀ j, j < k → risAt h j = true } => [(8, (true, .int .i64 (k.1 : Nat))), (7, (true, .bsl 499 0 k.1))])
    (fun k => hps [(499, { base := 0, blks := [{ z := 1, els := (lnTo h V S k.1).map ri, ty := 3 }] }), (404, { base := 0, blks := [{ z := 4, els := [[.int .i64 V, .int .i64 S, .int .i64 odd, .int .i64 other]], ty := 30 }] })] noH) (fun k => h.length - k.1) ⟨0, by omega, fun _ _ h => by omega, fun _ h => by omega⟩ ?_ ?_ ?_
  · simp [okAll, okv]
  · exact (by (try simp -dsimp only [hpush_noH, hpush_hps, hps_over]); refine hle_hps ?_; simp -dsimp [allK, lnTo]; repeat' (first | (refine And.intro ?_ ?_) | (refine sLe.same ?_ ?_ <;> (simp; done)) | (refine sLe.clear ?_ ?_ <;> (first | (simp; done) | (simp; omega))) | (refine sLe.drop 1 ?_ ?_ ?_ <;> (simp; done))))
  · rintro ⟨k, hk, hall, hris⟩
    simp only
    by_cases hk1 : k < h.length
    · have hki : (k : Int) < h.length := by omega
      have wk : IntKind.wrap .i64 ((k : Int) + 1) = (k + 1 : Nat) := wrap_id (by omega) (by omega)
      have hlk := lnTo_length h V S k
      have hsk := lnTo_succ h V S k
      rw [gi hk1] at hsk
      have step : ∀ (c : 0 ≤ h[k] ∧ h[k] ≤ 900), IntKind.wrap .i64 (S * h[k]) = S * h[k] ∧ IntKind.wrap .i64 (V + S * h[k]) = V + S * h[k] := fun c => by
        have m1 := mul_bd (x := S) (y := h[k]) (A := 1000) (B := 900) (by omega) (by omega) (by omega) (by omega)
        exact ⟨wrap_id (by omega) (by omega), wrap_id (by omega) (by omega)⟩
      by_cases c : 0 ≤ h[k] ∧ h[k] ≤ 900
      case neg =>
        by_cases hk0 : k = 0
        · subst hk0
          have hd0 : ¬ h = [] := by intro e; rw [e] at hk1; simp at hk1
          simp -dsimp [hki, hd0]
          repeat' (first | omega | (simp -dsimp [E4, ri, cellp, ints, hki, hk1, p1, hd0]) | (refine Also.intro ?_ fun _ => ?_) | (refine Hold.intro fun _ => ?_) | (refine And.intro ?_ ?_))
        · have hk2 : k - 1 < h.length := by omega
          have hkp : 0 < k := by omega
          have wk2 : IntKind.wrap .i64 ((k : Int) - 1) = (k - 1 : Nat) := by rw [wrap_id (by omega) (by omega)]; omega
          simp -dsimp [hki]
          repeat' (first | omega | (simp -dsimp [E4, ri, cellp, ints, hki, hk1, hk2, hkp, wk2, p1]) | (refine Also.intro ?_ fun _ => ?_) | (refine Hold.intro fun _ => ?_) | (refine And.intro ?_ ?_))
      obtain ⟨w1, w2⟩ := step c
      obtain ⟨c1, c2⟩ := c
      have c1' : (h[k] < 0) = False := eq_false (by omega)
      have c2' : (900 < h[k]) = False := eq_false (by omega)
      by_cases hk0 : k = 0
      · subst hk0
        have hd0 : ¬ h = [] := by intro e; rw [e] at hk1; simp at hk1
        have w0 : IntKind.wrap .i64 1 = 1 := by decide
        simp -dsimp [hki, hd0]
        repeat' (first | omega | (simp -dsimp [E4, ri, cellp, ints, hki, hk1, p1, c1', c2', w1, w2, hlk, hd0, w0]) | (refine Also.intro ?_ fun _ => ?_) | (refine Hold.intro fun _ => ?_) | (refine And.intro ?_ ?_))
        refine ⟨1, tle_chain rfl ?_, (by (try simp -dsimp only [hpush_noH, hpush_hps, hps_over]); refine hle_hps ?_; simp -dsimp [allK, hsk, ri]; repeat' (first | (refine And.intro ?_ ?_) | (refine sLe.same ?_ ?_ <;> (simp; done)) | (refine sLe.clear ?_ ?_ <;> (first | (simp; done) | (simp; omega))) | (refine sLe.drop 1 ?_ ?_ ?_ <;> (simp; done)))), ⟨hk1, fun j hj hj1 => ?_, fun j hj1 => ?_⟩, by omega⟩
        · simp [okAll, okv]
        · have : j = 0 := by omega
          subst this; exact ⟨c1, c2⟩
        · have : j = 0 := by omega
          subst this; rfl
      have hk2 : k - 1 < h.length := by omega
      have hkp : 0 < k := by omega
      have wk2 : IntKind.wrap .i64 ((k : Int) - 1) = (k - 1 : Nat) := by rw [wrap_id (by omega) (by omega)]; omega
      simp -dsimp [hki]
      repeat' (first | omega | (simp -dsimp [E4, ri, cellp, ints, hki, hk1, p1, c1', c2', w1, w2, hlk, hk2, hkp, wk2, wk]) | (refine Also.intro ?_ fun _ => ?_) | (refine Hold.intro fun _ => ?_) | (refine And.intro ?_ ?_))
      have hlt : h[k - 1] < h[k] := by assumption
      refine ⟨k + 1, tle_chain rfl ?_, (by (try simp -dsimp only [hpush_noH, hpush_hps, hps_over]); refine hle_hps ?_; simp -dsimp [allK, hsk, ri]; repeat' (first | (refine And.intro ?_ ?_) | (refine sLe.same ?_ ?_ <;> (simp; done)) | (refine sLe.clear ?_ ?_ <;> (first | (simp; done) | (simp; omega))) | (refine sLe.drop 1 ?_ ?_ ?_ <;> (simp; done)))), ⟨hk1, fun j hj hj1 => ?_, fun j hj1 => ?_⟩, by omega⟩
      · simp [okAll, okv]
      · by_cases e : j = k
        · subst e; exact ⟨c1, c2⟩
        · exact hall j hj (by omega)
      · by_cases e : j = k
        · subst e
          rw [risAt, gi hk1, gi hk2]
          simp [hlt]
        · exact hris j (by omega)
    have hkn : k = h.length := by omega
    subst hkn
    have F : LnF h V S := ⟨by omega, by omega, by omega, by omega, fun j hj => hall j hj hj, hris⟩
    have e1 := F.slope
    have e2 := F.forecast (a := a) ⟨g3, g4⟩
    have e3 := fun (ho : 5 ≤ h.length) (k : Nat) (hk : k < h.length) (hx : -1000000 ≤ other ∧ other ≤ 1000000) => F.other ho hk hx
    have hll := lnTo_length h V S h.length
    have m1 := mul_bd (x := S) (y := a) (A := 1000) (B := 1000000) (by omega) (by omega) (by omega) (by omega)
    have w1 : IntKind.wrap .i64 (S * a) = S * a := wrap_id (by omega) (by omega)
    have w2 : IntKind.wrap .i64 (V + S * a) = V + S * a := wrap_id (by omega) (by omega)
    have hnl : ¬ (h.length : Int) < h.length := by omega
    by_cases ho : (5 : Int) ≤ h.length ∧ 0 ≤ odd ∧ odd < h.length ∧ -1000000 ≤ other ∧ other ≤ 1000000
    case neg =>
      clear e3
      generalize lnTo h V S h.length = L at *
      simp -dsimp [hnl]
      repeat' (first | omega | (simp -dsimp [E4, ri, cellp, ints, hnl, hll, e1, e2, w1, w2, p1]) | (refine Also.intro ?_ fun _ => ?_) | (refine Hold.intro fun _ => ?_) | (refine And.intro ?_ ?_))
    obtain ⟨o1, o2, o3, o4, o5⟩ := ho
    obtain ⟨m, rfl⟩ : ∃ m : Nat, odd = m := ⟨odd.toNat, by omega⟩
    have hm : m < h.length := by omega
    have e4 := e3 (by omega) m hm ⟨o4, o5⟩
    clear e3
    generalize lnTo h V S h.length = L at *
    have hmL : m < L.length := by omega
    have eL : L[m]? = some L[m] := List.getElem?_eq_getElem hmL
    have hset : (L.map ri).set m [(Go.Sx.V.int .i64 other)] = (L.set m other).map ri := by rw [List.map_set]; rfl
    have hL2l : (L.set m other).length = h.length := by rw [List.length_set, hll]
    generalize L.set m other = L2 at *
    simp -dsimp [hnl]
    repeat' (first | omega | (simp -dsimp [E4, ri, cellp, ints, hnl, hll, e1, e2, e4, w1, w2, p1, o1, o2, o3, o4, o5, hmL, eL, hset, hL2l]) | (refine Also.intro ?_ fun _ => ?_) | (refine Hold.intro fun _ => ?_) | (refine And.intro ?_ ?_))
theorem ok4 : FnOK Try.prog 4 (.pure trueLnS) := pure_fn (E := E4) rfl (.cons ok5 (.cons ok7 (.cons ok9 .nil))) (ok := []) (fn := Try.f4) (by kernel_rfl) (by kernel_rfl) (by kernel_rfl) (by kernel_rfl) rfl (fun _ _ => by simp) b4
end Go.Sx

