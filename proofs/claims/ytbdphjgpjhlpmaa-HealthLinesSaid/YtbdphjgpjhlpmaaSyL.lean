/- HealthSlopes: rising, the errors of hours and values. No conditions. -/
import Derived.Test.YtbdphjgpjhlpmaaSyHj
set_option linter.unusedSimpArgs false
set_option linter.unusedVariables false
set_option maxRecDepth 100000
set_option maxHeartbeats 1000000
namespace Go.Sx
open Go.Proofs

/-! Check, Average -/
def risAt (m : List Int) (i : Nat) : Bool := i == 0 || decide (m.getD (i - 1) 0 < m.getD i 0)
def risB (m : List Int) : Bool := (List.range m.length).all (risAt m)
theorem risB_fail {m : List Int} {k : Nat} (hk : k < m.length) (h : risAt m k = false) : risB m = false := by
  simp only [risB, List.all_eq_false, List.mem_range]
  exact ⟨k, hk, by simp [h]⟩
theorem risB_all {m : List Int} (h : ∀ j, j < m.length → risAt m j = true) : risB m = true := by
  simp only [risB, List.all_eq_true, List.mem_range]
  exact h
abbrev risS : PSpec := { dom := List Int, enc := fun d => [ints d], dec := fun l => (l.getD 0 .top).toInts, pre := fun d => d.length ≤ 9223372036854775807, res := fun d => .bool (risB d) }
noncomputable abbrev E23 : Env := { P := Try.prog, fn := tbl [], own := [], key := 2300, nt := 24 }
theorem b23 : PureBody E23 [] Try.f23 risS := by
  refine pb ?_
  rintro m p1
  simp -dsimp [Try.f23, E23, ints]
  refine awp_loop [7, 8, 3, 9, 10, 11, 12, 13, 14, 15, 16, 17, 18, 19, 20, 21, 22, 2, 23, 6] (fun k : { k : Nat // k ≤ m.length ∧ ∀ j, j < k → risAt m j = true } => [(6, (true, .int .i64 (k.1 : Nat)))]) (fun k => noH) (fun k => m.length - k.1) ⟨0, by omega, fun _ h => by omega⟩ ?_ (HLe.refl _) ?_
  · simp [okAll, okv]
  rintro ⟨k, hk, he⟩
  simp only
  by_cases hk1 : k < m.length
  case neg =>
    have hke : k = m.length := by omega
    subst hke
    have := risB_all he
    simp -dsimp [this]
    repeat' (first | omega | (simp -dsimp [E23, ri, cellp, ints, this]) | (refine Also.intro ?_ fun _ => ?_) | (refine Hold.intro fun _ => ?_) | (refine And.intro ?_ ?_))
  have p2 : m.length ≤ 9223372036854775807 := p1
  have w1 : IntKind.wrap .i64 ((k : Int) + 1) = (k + 1 : Nat) := wrap_id (by omega) (by omega)
  by_cases hk0 : k = 0
  · subst hk0
    simp -dsimp [hk1]
    repeat' (first | omega | (simp -dsimp [E23, ri, cellp, ints, hk1]) | (refine Also.intro ?_ fun _ => ?_) | (refine Hold.intro fun _ => ?_) | (refine And.intro ?_ ?_))
    refine ⟨1, tle_chain rfl ?_, HLe.refl _, ⟨hk1, fun j hj => ?_⟩, by omega⟩
    · simp [okAll, okv]
      exact wrap_id (by omega) (by omega)
    · have : j = 0 := by omega
      subst this; rfl
  have hk2 : k - 1 < m.length := by omega
  have hkp : 0 < k := by omega
  have wk : IntKind.wrap .i64 ((k : Int) - 1) = (k - 1 : Nat) := by rw [wrap_id (by omega) (by omega)]; omega
  have e1 : m.getD (k - 1) 0 = m[k - 1] := by simp [List.getD, List.getElem?_eq_getElem hk2]
  have e2 : m.getD k 0 = m[k] := by simp [List.getD, List.getElem?_eq_getElem hk1]
  have hat : risAt m k = decide (m[k - 1] < m[k]) := by
    rw [risAt, e1, e2, show (k == 0) = false by simpa using hk0, Bool.false_or]
  by_cases hc : m[k - 1] < m[k]
  · have hc' : ¬ m[k] ≤ m[k - 1] := by omega
    simp -dsimp [hk1, hk2, hkp, ri]
    repeat' (first | omega | (simp -dsimp [E23, ri, cellp, ints, hk1, hk2, hkp, ri, wk, w1, hc']) | (refine Also.intro ?_ fun _ => ?_) | (refine Hold.intro fun _ => ?_) | (refine And.intro ?_ ?_))
    refine ⟨k + 1, tle_chain rfl ?_, HLe.refl _, ⟨hk1, fun j hj => ?_⟩, by omega⟩
    · simp [okAll, okv]
    · by_cases e : j = k
      · subst e; rw [hat]; simpa using hc
      · exact he j (by omega)
  · have hc' : m[k] ≤ m[k - 1] := by omega
    have hf := risB_fail hk1 (by rw [hat]; simpa using hc)
    simp -dsimp [hk1, hk2, hkp, ri, hf]
    repeat' (first | omega | (simp -dsimp [E23, ri, cellp, ints, hk1, hk2, hkp, ri, wk, hc', hf]) | (refine Also.intro ?_ fun _ => ?_) | (refine Hold.intro fun _ => ?_) | (refine And.intro ?_ ?_))
theorem ok23 : FnOK Try.prog 23 (.pure risS) := pure_fn (E := E23) rfl LOK.nil (ok := []) (fn := Try.f23) (by kernel_rfl) (by kernel_rfl) (by kernel_rfl) (by kernel_rfl) rfl (fun _ _ => by simp) b23

theorem allB_all {l : List Int} {lo hi : Int} (h : ∀ j (hj : j < l.length), withinB l[j] lo hi = true) : allB l lo hi = true := by
  simp only [allB, List.all_eq_true]
  intro x hx
  obtain ⟨j, hj, rfl⟩ := List.getElem_of_mem hx
  exact h j hj
theorem allB_fail {l : List Int} {lo hi : Int} {k : Nat} (hk : k < l.length) (h : withinB l[k] lo hi = false) : allB l lo hi = false := by
  simp only [allB, List.all_eq_false]
  exact ⟨l[k], List.getElem_mem hk, by simp [h]⟩
def slOk (hours values : List Int) : Bool := validB values && decide (hours.length = values.length) && allB hours 0 1000000 && risB hours
abbrev chkSlS : PSpec := { dom := List Int × List Int × Int, enc := fun d => [ints d.1, ints d.2.1, .int .i64 d.2.2], dec := fun l => ((l.getD 0 .top).toInts, (l.getD 1 .top).toInts, (l.getD 2 .top).toInt), pre := fun d => d.1.length ≤ 9223372036854775807 ∧ d.2.1.length ≤ 9223372036854775807, res := fun d => .int .i64 (if slOk d.1 d.2.1 && withinB d.2.2 0 1000000 then (if d.2.1.length = 1 then 3 else 0) else 1) }
noncomputable abbrev E10 : Env := { P := Try.prog, fn := tbl [(21, .pure validS), (22, .pure allS), (23, .pure risS), (24, .pure withinS)], own := [], key := 1000, nt := 35 }
theorem b10 : PureBody E10 [] Try.f10 chkSlS := by
  refine pb ?_
  rintro ⟨hours, values, at'⟩ ⟨p1, p2⟩
  simp only at p1 p2
  by_cases a1 : validB values = true
  case neg =>
    have a1' : validB values = false := by simpa using a1
    simp -dsimp [Try.f10, E10, slOk, a1']
    repeat' (first | omega | (simp -dsimp [E10, ri, cellp, ints, p1, p2, a1']) | (refine Also.intro ?_ fun _ => ?_) | (refine Hold.intro fun _ => ?_) | (refine And.intro ?_ ?_))
  by_cases a2 : hours.length = values.length
  case neg =>
    have a2' : ¬ (hours.length : Int) = values.length := by omega
    simp -dsimp [Try.f10, E10, slOk, a1, a2]
    repeat' (first | omega | (simp -dsimp [E10, ri, cellp, ints, p1, p2, a1, a2']) | (refine Also.intro ?_ fun _ => ?_) | (refine Hold.intro fun _ => ?_) | (refine And.intro ?_ ?_))
  by_cases a3 : allB hours 0 1000000 = true
  case neg =>
    have a3' : allB hours 0 1000000 = false := by simpa using a3
    simp -dsimp [Try.f10, E10, slOk, a1, a2, a3']
    repeat' (first | omega | (simp -dsimp [E10, ri, cellp, ints, p1, p2, a1, a2, a3']) | (refine Also.intro ?_ fun _ => ?_) | (refine Hold.intro fun _ => ?_) | (refine And.intro ?_ ?_))
  by_cases a4 : risB hours = true
  case neg =>
    have a4' : risB hours = false := by simpa using a4
    simp -dsimp [Try.f10, E10, slOk, a1, a2, a3, a4']
    repeat' (first | omega | (simp -dsimp [E10, ri, cellp, ints, p1, p2, a1, a2, a3, a4']) | (refine Also.intro ?_ fun _ => ?_) | (refine Hold.intro fun _ => ?_) | (refine And.intro ?_ ?_))
  by_cases a5 : withinB at' 0 1000000 = true
  case neg =>
    have a5' : withinB at' 0 1000000 = false := by simpa using a5
    simp -dsimp [Try.f10, E10, slOk, a1, a2, a3, a4, a5']
    repeat' (first | omega | (simp -dsimp [E10, ri, cellp, ints, p1, p2, a1, a2, a3, a4, a5']) | (refine Also.intro ?_ fun _ => ?_) | (refine Hold.intro fun _ => ?_) | (refine And.intro ?_ ?_))
  by_cases a6 : values.length = 1
  · have a6' : (values.length : Int) = 1 := by omega
    simp -dsimp [Try.f10, E10, slOk, a1, a2, a3, a4, a5, a6]
    repeat' (first | omega | (simp -dsimp [E10, ri, cellp, ints, p1, p2, a1, a2, a3, a4, a5, a6, a6']) | (refine Also.intro ?_ fun _ => ?_) | (refine Hold.intro fun _ => ?_) | (refine And.intro ?_ ?_))
  · have a6' : ¬ (values.length : Int) = 1 := by omega
    simp -dsimp [Try.f10, E10, slOk, a1, a2, a3, a4, a5, a6]
    repeat' (first | omega | (simp -dsimp [E10, ri, cellp, ints, p1, p2, a1, a2, a3, a4, a5, a6, a6']) | (refine Also.intro ?_ fun _ => ?_) | (refine Hold.intro fun _ => ?_) | (refine And.intro ?_ ?_))
theorem ok10 : FnOK Try.prog 10 (.pure chkSlS) := pure_fn (E := E10) rfl (.cons ok21 (.cons ok22 (.cons ok23 (.cons ok24 .nil)))) (ok := []) (fn := Try.f10) (by kernel_rfl) (by kernel_rfl) (by kernel_rfl) (by kernel_rfl) rfl (fun _ _ => by simp) b10
abbrev timedS : PSpec := { sameS with res := fun d => .bool (slOk d.1 d.2) }
noncomputable abbrev E13 : Env := { P := Try.prog, fn := tbl [(26, .pure validS), (17, .pure withinS)], own := [], key := 1300, nt := 44 }
theorem b13 : PureBody E13 [] Try.f13 timedS := by
  refine pb ?_
  rintro ⟨m, values⟩ ⟨p1, p2⟩
  simp only at p1 p2
  by_cases a1 : validB values = true
  case neg =>
    have a1' : validB values = false := by simpa using a1
    simp -dsimp [Try.f13, E13, slOk, a1']
    repeat' (first | omega | (simp -dsimp [E13, ri, cellp, ints, p1, p2, a1']) | (refine Also.intro ?_ fun _ => ?_) | (refine Hold.intro fun _ => ?_) | (refine And.intro ?_ ?_))
  by_cases a2 : m.length = values.length
  case neg =>
    have a2' : ¬ (m.length : Int) = values.length := by omega
    simp -dsimp [Try.f13, E13, slOk, a1, a2]
    repeat' (first | omega | (simp -dsimp [E13, ri, cellp, ints, p1, p2, a1, a2']) | (refine Also.intro ?_ fun _ => ?_) | (refine Hold.intro fun _ => ?_) | (refine And.intro ?_ ?_))
  simp -dsimp [Try.f13, E13, a1]
  repeat' (first | omega | (simp -dsimp [E13, ri, cellp, ints, p1, p2, a1, a2]) | (refine Also.intro ?_ fun _ => ?_) | (refine Hold.intro fun _ => ?_) | (refine And.intro ?_ ?_))
  refine awp_loop [16, 17, 18, 19, 22, 23, 24, 25, 26, 27, 28, 29, 30, 31, 32, 33, 34, 35, 36, 37, 38, 39, 40, 41, 42, 43, 4, 20, 21, 5] (fun k : { k : Nat // k ≤ m.length ∧ (∀ j (h : j < m.length), j < k → withinB m[j] 0 1000000 = true) ∧ ∀ j, j < k → risAt m j = true } => [(5, (true, .int .i64 (k.1 : Nat)))]) (fun k => _) (fun k => m.length - k.1) ⟨0, by omega, fun _ _ h => by omega, fun _ h => by omega⟩ ?_ (HLe.refl _) ?_
  · simp [okAll, okv]
  rintro ⟨k, hk, hall, hris⟩
  simp only
  by_cases hk1 : k < m.length
  case neg =>
    have q4 : allB m 0 1000000 = true := allB_all fun j h => hall j h (by omega)
    have hke : k = m.length := by omega
    subst hke
    have q5 := risB_all hris
    have hf : slOk m values = true := by simp [slOk, a1, a2, q4, q5]
    simp -dsimp [hf]
    repeat' (first | omega | (simp -dsimp [E13, ri, cellp, ints, hf]) | (refine Also.intro ?_ fun _ => ?_) | (refine Hold.intro fun _ => ?_) | (refine And.intro ?_ ?_))
  have w1 : IntKind.wrap .i64 ((k : Int) + 1) = (k + 1 : Nat) := wrap_id (by omega) (by omega)
  by_cases hv : withinB m[k] 0 1000000 = true
  case neg =>
    have hv' : withinB m[k] 0 1000000 = false := by simpa using hv
    have hf : slOk m values = false := by simp [slOk, allB_fail hk1 hv']
    simp -dsimp [hk1, ri, hv', hf]
    repeat' (first | omega | (simp -dsimp [E13, ri, cellp, ints, hk1, hv', hf]) | (refine Also.intro ?_ fun _ => ?_) | (refine Hold.intro fun _ => ?_) | (refine And.intro ?_ ?_))
  by_cases hk0 : k = 0
  · subst hk0
    simp -dsimp [hk1, ri, hv]
    repeat' (first | omega | (simp -dsimp [E13, ri, cellp, ints, hk1, hv, ri]) | (refine Also.intro ?_ fun _ => ?_) | (refine Hold.intro fun _ => ?_) | (refine And.intro ?_ ?_))
    refine ⟨1, tle_chain rfl ?_, HLe.refl _, ⟨hk1, fun j h hj => ?_, fun j hj => ?_⟩, by omega⟩
    · simp [okAll, okv]
      exact wrap_id (by omega) (by omega)
    · have : j = 0 := by omega
      subst this; exact hv
    · have : j = 0 := by omega
      subst this; rfl
  have hk2 : k - 1 < m.length := by omega
  have hkp : 0 < k := by omega
  have wk : IntKind.wrap .i64 ((k : Int) - 1) = (k - 1 : Nat) := by rw [wrap_id (by omega) (by omega)]; omega
  have e1 : m.getD (k - 1) 0 = m[k - 1] := by simp [List.getD, List.getElem?_eq_getElem hk2]
  have e2 : m.getD k 0 = m[k] := by simp [List.getD, List.getElem?_eq_getElem hk1]
  have hat : risAt m k = decide (m[k - 1] < m[k]) := by
    rw [risAt, e1, e2, show (k == 0) = false by simpa using hk0, Bool.false_or]
  by_cases hc : m[k - 1] < m[k]
  · have hc' : ¬ m[k] ≤ m[k - 1] := by omega
    simp -dsimp [hk1, hk2, hkp, ri, hv]
    repeat' (first | omega | (simp -dsimp [E13, ri, cellp, ints, hk1, hk2, hkp, ri, wk, w1, hc', hv]) | (refine Also.intro ?_ fun _ => ?_) | (refine Hold.intro fun _ => ?_) | (refine And.intro ?_ ?_))
    refine ⟨k + 1, tle_chain rfl ?_, HLe.refl _, ⟨hk1, fun j h hj => ?_, fun j hj => ?_⟩, by omega⟩
    · simp [okAll, okv]
    · by_cases e : j = k
      · subst e; exact hv
      · exact hall j h (by omega)
    · by_cases e : j = k
      · subst e; rw [hat]; simpa using hc
      · exact hris j (by omega)
  · have hc' : m[k] ≤ m[k - 1] := by omega
    have hf : slOk m values = false := by
      have := risB_fail hk1 (by rw [hat]; simpa using hc)
      simp [slOk, this]
    simp -dsimp [hk1, hk2, hkp, ri, hv, hf]
    repeat' (first | omega | (simp -dsimp [E13, ri, cellp, ints, hk1, hk2, hkp, ri, wk, hc', hv, hf]) | (refine Also.intro ?_ fun _ => ?_) | (refine Hold.intro fun _ => ?_) | (refine And.intro ?_ ?_))
theorem ok13 : FnOK Try.prog 13 (.pure timedS) := pure_fn (E := E13) rfl (.cons ok26 (.cons ok17 .nil)) (ok := []) (fn := Try.f13) (by kernel_rfl) (by kernel_rfl) (by kernel_rfl) (by kernel_rfl) rfl (fun _ _ => by simp) b13
end Go.Sx

