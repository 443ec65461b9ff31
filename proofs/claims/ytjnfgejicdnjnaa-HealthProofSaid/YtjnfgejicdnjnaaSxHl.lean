/- A part of a proof; no conditions. -/
import Derived.Test.YtjnfgejicdnjnaaSxHk
set_option linter.unusedSimpArgs false
set_option linter.unusedVariables false
set_option maxRecDepth 100000
set_option maxHeartbeats 1000000
namespace Go.Sx
open Go.Proofs

/-! Crest -/
structure LvD where
  en : Int
  pk : Int
  su : Int
  de : Int
def lvV (d : LvD) : V := .agg [.int .i64 d.en, .int .i64 d.pk, .int .i64 d.su, .int .i64 d.de]
def V.toLv (v : V) : LvD := ⟨(v.cs.getD 0 .top).toInt, (v.cs.getD 1 .top).toInt, (v.cs.getD 2 .top).toInt, (v.cs.getD 3 .top).toInt⟩
@[simp] theorem toLv_agg (a b c d : Int) : V.toLv (.agg [.int .i64 a, .int .i64 b, .int .i64 c, .int .i64 d]) = ⟨a, b, c, d⟩ := rfl
def crOk (d : LvD) (n : Int) : Bool := withinB n 1 24 && withinB d.pk 0 48000000 && withinB d.su d.pk (n * d.pk)
def crZ (d : LvD) (n : Int) : Int × Int × Int := if crOk d n then if d.su = 0 then (0, 1, 0) else (lowN (n * d.pk) d.su, lowD (n * d.pk) d.su, 0) else (0, 0, 1)
abbrev crestS : PSpec := { dom := LvD × Int, enc := fun d => [lvV d.1, .int .i64 d.2], dec := fun l => ((l.getD 0 .top).toLv, (l.getD 1 .top).toInt), pre := fun _ => True, res := fun d => .tup [.int .i64 (crZ d.1 d.2).1, .int .i64 (crZ d.1 d.2).2.1, .int .i64 (crZ d.1 d.2).2.2] }
theorem mul_le {n p : Int} (h1 : 1 ≤ n ∧ n ≤ 24) (h2 : 0 ≤ p ∧ p ≤ 48000000) : 0 ≤ n * p ∧ n * p ≤ 24 * 48000000 ∧ p ≤ n * p := by
  refine ⟨Int.mul_nonneg (by omega) h2.1, Int.mul_le_mul h1.2 h2.2 h2.1 (by omega), ?_⟩
  have := Int.mul_le_mul_of_nonneg_right h1.1 h2.1
  omega
theorem low_facts {num den : Int} (h0 : 0 ≤ num) (h : 0 < den) : lowN num den * (Int.gcd num den : Int) = num ∧ lowD num den * (Int.gcd num den : Int) = den ∧ 0 < (Int.gcd num den : Int) := by
  have hg := gcd_pos (n := num) h
  refine ⟨?_, ?_, hg⟩
  · exact Int.tdiv_mul_cancel (Int.gcd_dvd_left ..)
  · exact Int.tdiv_mul_cancel (Int.gcd_dvd_right ..)
noncomputable abbrev E21 : Env := { P := Try.prog, fn := tbl [(56, .pure withinS), (53, .pure fracS)], own := [], key := 2100, nt := 44 }
theorem b21 : PureBody E21 [] Try.f21 crestS := by
  refine pb ?_
  rintro ⟨⟨en, pk, su, de⟩, n⟩ _
  by_cases h1 : withinB n 1 24 = true
  case neg =>
    have h1' : withinB n 1 24 = false := by simpa using h1
    simp -dsimp [Try.f21, E21, lvV, h1', crZ, crOk]
    repeat' (first | omega | (simp -dsimp [E21, ri, cellp, ints, lvV, h1', crZ, crOk]) | (refine Also.intro ?_ fun _ => ?_) | (refine Hold.intro fun _ => ?_) | (refine And.intro ?_ ?_))
  by_cases h2 : withinB pk 0 48000000 = true
  case neg =>
    have h2' : withinB pk 0 48000000 = false := by simpa using h2
    simp -dsimp [Try.f21, E21, lvV, h1, h2', crZ, crOk]
    repeat' (first | omega | (simp -dsimp [E21, ri, cellp, ints, lvV, h1, h2', crZ, crOk]) | (refine Also.intro ?_ fun _ => ?_) | (refine Hold.intro fun _ => ?_) | (refine And.intro ?_ ?_))
  have q1 : 1 ≤ n ∧ n ≤ 24 := by simpa [withinB] using h1
  have q2 : 0 ≤ pk ∧ pk ≤ 48000000 := by simpa [withinB] using h2
  obtain ⟨m1, m2, m3⟩ := mul_le q1 q2
  have hw : IntKind.wrap .i64 (n * pk) = n * pk := wrap_id (by omega) (by omega)
  by_cases h3 : withinB su pk (n * pk) = true
  case neg =>
    have h3' : withinB su pk (n * pk) = false := by simpa using h3
    simp -dsimp [Try.f21, E21, lvV, h1, h2, h3', hw, crZ, crOk]
    repeat' (first | omega | (simp -dsimp [E21, ri, cellp, ints, lvV, h1, h2, h3', hw, crZ, crOk]) | (refine Also.intro ?_ fun _ => ?_) | (refine Hold.intro fun _ => ?_) | (refine And.intro ?_ ?_))
  have q3 : pk ≤ su ∧ su ≤ n * pk := by simpa [withinB] using h3
  by_cases hs : su = 0
  · subst hs
    simp -dsimp [Try.f21, E21, lvV, h1, h2, h3, hw, crZ, crOk]
    repeat' (first | omega | (simp -dsimp [E21, ri, cellp, ints, lvV, h1, h2, h3, hw, crZ, crOk]) | (refine Also.intro ?_ fun _ => ?_) | (refine Hold.intro fun _ => ?_) | (refine And.intro ?_ ?_))
  · simp -dsimp [Try.f21, E21, lvV, h1, h2, h3, hw, hs, crZ, crOk]
    repeat' (first | omega | (simp -dsimp [E21, ri, cellp, ints, lvV, h1, h2, h3, hw, hs, crZ, crOk, lowPre]) | (refine Also.intro ?_ fun _ => ?_) | (refine Hold.intro fun _ => ?_) | (refine And.intro ?_ ?_))
theorem ok21 : FnOK Try.prog 21 (.pure crestS) := pure_fn (E := E21) rfl (.cons ok56 (.cons ok53 .nil)) (ok := []) (fn := Try.f21) (by kernel_rfl) (by kernel_rfl) (by kernel_rfl) (by kernel_rfl) rfl (fun _ _ => by simp) b21
noncomputable abbrev E22 : Env := { P := Try.prog, fn := tbl [(57, .pure withinS), (54, .pure fracS2)], own := [], key := 2200, nt := 45 }
theorem b22 : PureBody E22 [] Try.f22 crestS := by
  refine pb ?_
  rintro ⟨⟨en, pk, su, de⟩, n⟩ _
  by_cases h1 : withinB n 1 24 = true
  case neg =>
    have h1' : withinB n 1 24 = false := by simpa using h1
    simp -dsimp [Try.f22, E22, lvV, h1', crZ, crOk]
    repeat' (first | omega | (simp -dsimp [E22, ri, cellp, ints, lvV, h1', crZ, crOk]) | (refine Also.intro ?_ fun _ => ?_) | (refine Hold.intro fun _ => ?_) | (refine And.intro ?_ ?_))
  by_cases h2 : withinB pk 0 48000000 = true
  case neg =>
    have h2' : withinB pk 0 48000000 = false := by simpa using h2
    simp -dsimp [Try.f22, E22, lvV, h1, h2', crZ, crOk]
    repeat' (first | omega | (simp -dsimp [E22, ri, cellp, ints, lvV, h1, h2', crZ, crOk]) | (refine Also.intro ?_ fun _ => ?_) | (refine Hold.intro fun _ => ?_) | (refine And.intro ?_ ?_))
  have q1 : 1 ≤ n ∧ n ≤ 24 := by simpa [withinB] using h1
  have q2 : 0 ≤ pk ∧ pk ≤ 48000000 := by simpa [withinB] using h2
  obtain ⟨m1, m2, m3⟩ := mul_le q1 q2
  have hw : IntKind.wrap .i64 (n * pk) = n * pk := wrap_id (by omega) (by omega)
  by_cases h3 : withinB su pk (n * pk) = true
  case neg =>
    have h3' : withinB su pk (n * pk) = false := by simpa using h3
    simp -dsimp [Try.f22, E22, lvV, h1, h2, h3', hw, crZ, crOk]
    repeat' (first | omega | (simp -dsimp [E22, ri, cellp, ints, lvV, h1, h2, h3', hw, crZ, crOk]) | (refine Also.intro ?_ fun _ => ?_) | (refine Hold.intro fun _ => ?_) | (refine And.intro ?_ ?_))
  have q3 : pk ≤ su ∧ su ≤ n * pk := by simpa [withinB] using h3
  by_cases hs : su = 0
  · subst hs
    simp -dsimp [Try.f22, E22, lvV, h1, h2, h3, hw, crZ, crOk]
    repeat' (first | omega | (simp -dsimp [E22, ri, cellp, ints, lvV, h1, h2, h3, hw, crZ, crOk]) | (refine Also.intro ?_ fun _ => ?_) | (refine Hold.intro fun _ => ?_) | (refine And.intro ?_ ?_))
  · simp -dsimp [Try.f22, E22, lvV, h1, h2, h3, hw, hs, crZ, crOk]
    repeat' (first | omega | (simp -dsimp [E22, ri, cellp, ints, lvV, h1, h2, h3, hw, hs, crZ, crOk, lowPre]) | (refine Also.intro ?_ fun _ => ?_) | (refine Hold.intro fun _ => ?_) | (refine And.intro ?_ ?_))
theorem ok22 : FnOK Try.prog 22 (.pure crestS) := pure_fn (E := E22) rfl (.cons ok57 (.cons ok54 .nil)) (ok := []) (fn := Try.f22) (by kernel_rfl) (by kernel_rfl) (by kernel_rfl) (by kernel_rfl) rfl (fun _ _ => by simp) b22
theorem crest_law {d : LvD} {n : Int} (h : crOk d n = true) (hs : ¬ d.su = 0) : 0 < d.su ∧ lowN (n * d.pk) d.su ≥ lowD (n * d.pk) d.su ∧ lowN (n * d.pk) d.su ≤ n * lowD (n * d.pk) d.su ∧ 0 ≤ n * lowD (n * d.pk) d.su ∧ n * lowD (n * d.pk) d.su ≤ 24 * 48000000000 := by
  simp only [crOk, Bool.and_eq_true, withinB, decide_eq_true_eq] at h
  obtain ⟨⟨h1, h2⟩, h3⟩ := h
  obtain ⟨m1, m2, m3⟩ := mul_le h1 h2
  have hsu : 0 < d.su := by omega
  obtain ⟨f1, f2, f3⟩ := low_facts m1 hsu
  generalize lowN (n * d.pk) d.su = a at *
  generalize lowD (n * d.pk) d.su = b at *
  generalize (Int.gcd (n * d.pk) d.su : Int) = g at *
  have hb0 : 0 ≤ b := by
    have : 0 ≤ b * g := by omega
    exact Int.nonneg_of_mul_nonneg_left this f3
  have hbs : b ≤ d.su := by
    have := Int.mul_le_mul_of_nonneg_left (show (1 : Int) ≤ g by omega) hb0
    omega
  refine ⟨hsu, ?_, ?_, Int.mul_nonneg (by omega) hb0, Int.mul_le_mul h1.2 (by omega) hb0 (by omega)⟩
  · exact Int.le_of_mul_le_mul_right (by omega) f3
  · refine Int.le_of_mul_le_mul_right ?_ f3
    rw [f1, Int.mul_assoc, f2]
    exact Int.mul_le_mul_of_nonneg_left h3.1 (by omega)
abbrev trueCrestS : PSpec := { crestS with res := fun _ => .bool true }
noncomputable abbrev E4 : Env := { P := Try.prog, fn := tbl [(21, .pure crestS), (22, .pure crestS), (18, .pure worksS)], own := [], key := 400, nt := 72 }
theorem b4 : PureBody E4 [] Try.f4 trueCrestS := by
  refine pb ?_
  rintro ⟨⟨en, pk, su, de⟩, n⟩ _
  by_cases hv : crOk ⟨en, pk, su, de⟩ n = true
  · by_cases hs : su = 0
    · subst hs
      simp -dsimp [Try.f4, E4, lvV, crZ, hv]
      repeat' (first | omega | (simp -dsimp [E4, ri, cellp, ints, lvV, crZ, hv]) | (refine Also.intro ?_ fun _ => ?_) | (refine Hold.intro fun _ => ?_) | (refine And.intro ?_ ?_))
    · obtain ⟨k1, k2, k3, k4, k5⟩ := crest_law hv hs
      simp only at k1 k2 k3 k4 k5
      have hw : IntKind.wrap .i64 (n * lowD (n * pk) su) = n * lowD (n * pk) su := wrap_id (by omega) (by omega)
      simp -dsimp [Try.f4, E4, lvV, crZ, hv, hs]
      repeat' (first | omega | (simp -dsimp [E4, ri, cellp, ints, lvV, crZ, hv, hs, k1, k2, k3, hw]) | (refine Also.intro ?_ fun _ => ?_) | (refine Hold.intro fun _ => ?_) | (refine And.intro ?_ ?_))
  · simp -dsimp [Try.f4, E4, lvV, crZ, hv]
    repeat' (first | omega | (simp -dsimp [E4, ri, cellp, ints, lvV, crZ, hv]) | (refine Also.intro ?_ fun _ => ?_) | (refine Hold.intro fun _ => ?_) | (refine And.intro ?_ ?_))
theorem ok4 : FnOK Try.prog 4 (.pure trueCrestS) := pure_fn (E := E4) rfl (.cons ok21 (.cons ok22 (.cons ok18 .nil))) (ok := []) (fn := Try.f4) (by kernel_rfl) (by kernel_rfl) (by kernel_rfl) (by kernel_rfl) rfl (fun _ _ => by simp) b4
end Go.Sx

