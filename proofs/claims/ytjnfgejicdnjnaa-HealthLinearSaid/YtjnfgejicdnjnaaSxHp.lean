/- A part of a proof; no conditions. -/
import Derived.Test.YtjnfgejicdnjnaaSxHo
set_option linter.unusedSimpArgs false
set_option linter.unusedVariables false
set_option maxRecDepth 100000
set_option maxHeartbeats 1000000
namespace Go.Sx
open Go.Proofs

/-! Check, Average -/
def risAt (m : List Int) (i : Nat) : Bool := i == 0 || decide (m.getD (i - 1) 0 < m.getD i 0)
def risB (m : List Int) : Bool := (List.range m.length).all (risAt m)
def chkOk (s m : List Int) : Bool := decide (s.length ≤ 400) && allB s (-100) 100 && withinB m.length 2 9 && allB m 0 ((s.length : Int) - 1) && risB m
theorem risB_fail {m : List Int} {k : Nat} (hk : k < m.length) (h : risAt m k = false) : risB m = false := by
  simp only [risB, List.all_eq_false, List.mem_range]
  exact ⟨k, hk, by simp [h]⟩
theorem risB_all {m : List Int} (h : ∀ j, j < m.length → risAt m j = true) : risB m = true := by
  simp only [risB, List.all_eq_true, List.mem_range]
  exact h
abbrev risS : PSpec := { dom := List Int, enc := fun d => [ints d], dec := fun l => (l.getD 0 .top).toInts, pre := fun d => d.length ≤ 9223372036854775807, res := fun d => .bool (risB d) }
noncomputable abbrev E73 : Env := { P := Try.prog, fn := tbl [], own := [], key := 7300, nt := 24 }
theorem b73 : PureBody E73 [] Try.f73 risS := by
  refine pb ?_
  rintro m p1
  simp -dsimp [Try.f73, E73, ints]
  refine awp_loop [7, 8, 3, 9, 10, 11, 12, 13, 14, 15, 16, 17, 18, 19, 20, 21, 22, 2, 23, 6] (fun k : { k : Nat // k ≤ m.length ∧ ∀ j, j < k → risAt m j = true } => [(6, (true, .int .i64 (k.1 : Nat)))]) (fun k => noH) (fun k => m.length - k.1) ⟨0, by omega, fun _ h => by omega⟩ ?_ (HLe.refl _) ?_
  · simp [okAll, okv]
  rintro ⟨k, hk, he⟩
  simp only
  by_cases hk1 : k < m.length
  case neg =>
    have hke : k = m.length := by omega
    subst hke
    have := risB_all he
    simp -dsimp [this]
    repeat' (first | omega | (simp -dsimp [E73, ri, cellp, ints, this]) | (refine Also.intro ?_ fun _ => ?_) | (refine Hold.intro fun _ => ?_) | (refine And.intro ?_ ?_))
  have p2 : m.length ≤ 9223372036854775807 := p1
  have w1 : IntKind.wrap .i64 ((k : Int) + 1) = (k + 1 : Nat) := wrap_id (by omega) (by omega)
  by_cases hk0 : k = 0
  · subst hk0
    simp -dsimp [hk1]
    repeat' (first | omega | (simp -dsimp [E73, ri, cellp, ints, hk1]) | (refine Also.intro ?_ fun _ => ?_) | (refine Hold.intro fun _ => ?_) | (refine And.intro ?_ ?_))
    refine ⟨1, tle_chain rfl ?_, HLe.refl _, ⟨hk1, fun j hj => ?_⟩, by omega⟩
    · simp [okAll, okv]
      exact wrap_id (by omega) (by omega)
    · have : j = 0 := by omega
      subst this; rfl
  have hk2 : k - 1 < m.length := by omega
  have hkp : 0 < k := by omega
  have wk : IntKind.wrap .i64 ((k : Int) - 1) = (k - 1 : Nat) := by rw [wrap_id (by omega) (by omega)]; omega
  have e1 : m.getD (k - 1) 0 = m[k - 1] := by simp [List.getD, List.getElem?_eq_getElem hk2]
  have e2 : m.getD k 0 = m[k] := by simp [List.getD, List.getElem?_eq_getElem hk1]
  have hat : risAt m k = decide (m[k - 1] < m[k]) := by
    rw [risAt, e1, e2, show (k == 0) = false by simpa using hk0, Bool.false_or]
  by_cases hc : m[k - 1] < m[k]
  · have hc' : ¬ m[k] ≤ m[k - 1] := by omega
    simp -dsimp [hk1, hk2, hkp, ri]
    repeat' (first | omega | (simp -dsimp [E73, ri, cellp, ints, hk1, hk2, hkp, ri, wk, w1, hc']) | (refine Also.intro ?_ fun _ => ?_) | (refine Hold.intro fun _ => ?_) | (refine And.intro ?_ ?_))
    refine ⟨k + 1, tle_chain rfl ?_, HLe.refl _, ⟨hk1, fun j hj => ?_⟩, by omega⟩
    · simp [okAll, okv]
    · by_cases e : j = k
      · subst e; rw [hat]; simpa using hc
      · exact he j (by omega)
  · have hc' : m[k] ≤ m[k - 1] := by omega
    have hf := risB_fail hk1 (by rw [hat]; simpa using hc)
    simp -dsimp [hk1, hk2, hkp, ri, hf]
    repeat' (first | omega | (simp -dsimp [E73, ri, cellp, ints, hk1, hk2, hkp, ri, wk, hc', hf]) | (refine Also.intro ?_ fun _ => ?_) | (refine Hold.intro fun _ => ?_) | (refine And.intro ?_ ?_))
theorem ok73 : FnOK Try.prog 73 (.pure risS) := pure_fn (E := E73) rfl LOK.nil (ok := []) (fn := Try.f73) (by kernel_rfl) (by kernel_rfl) (by kernel_rfl) (by kernel_rfl) rfl (fun _ _ => by simp) b73
abbrev vibD : PSpec := { dom := List Int × List Int, enc := fun d => [.agg [ints d.1, ints d.2]], dec := fun l => (((l.getD 0 .top).cs.getD 0 .top).toInts, ((l.getD 0 .top).cs.getD 1 .top).toInts), pre := fun d => d.1.length ≤ 9223372036854775807 ∧ d.2.length ≤ 9223372036854775807, res := fun _ => .top }
abbrev CheckS : PSpec := { vibD with res := fun d => .int .i64 (if chkOk d.1 d.2 then 0 else 80) }
noncomputable abbrev E33 : Env := { P := Try.prog, fn := tbl [(58, .pure allS), (56, .pure withinS), (73, .pure risS)], own := [], key := 3300, nt := 36 }
theorem b33 : PureBody E33 [] Try.f33 CheckS := by
  refine pb ?_
  rintro ⟨s, m⟩ ⟨p1, p2⟩
  simp only at p1 p2
  have ws : IntKind.wrap .i64 ((s.length : Int) - 1) = (s.length : Int) - 1 := wrap_id (by omega) (by omega)
  simp -dsimp [Try.f33, E33, ints]
  by_cases q1 : s.length ≤ 400
  case neg =>
    have q1' : (400 : Int) < s.length := by omega
    have hf : chkOk s m = false := by simp [chkOk, q1]
    repeat' (first | omega | (simp -dsimp [E33, ri, cellp, ints, q1', hf]) | (refine Also.intro ?_ fun _ => ?_) | (refine Hold.intro fun _ => ?_) | (refine And.intro ?_ ?_))
  have q1' : ¬ (400 : Int) < s.length := by omega
  by_cases q2 : allB s (-100) 100 = true
  case neg =>
    have q2' : allB s (-100) 100 = false := by simpa using q2
    have hf : chkOk s m = false := by simp [chkOk, q2']
    repeat' (first | omega | (simp -dsimp [E33, ri, cellp, ints, q1', q2', p1, hf]) | (refine Also.intro ?_ fun _ => ?_) | (refine Hold.intro fun _ => ?_) | (refine And.intro ?_ ?_))
  by_cases q3 : withinB m.length 2 9 = true
  case neg =>
    have q3' : withinB m.length 2 9 = false := by simpa using q3
    have hf : chkOk s m = false := by simp [chkOk, q3']
    repeat' (first | omega | (simp -dsimp [E33, ri, cellp, ints, q1', q2, q3', p1, hf]) | (refine Also.intro ?_ fun _ => ?_) | (refine Hold.intro fun _ => ?_) | (refine And.intro ?_ ?_))
  by_cases q4 : allB m 0 ((s.length : Int) - 1) = true
  case neg =>
    have q4' : allB m 0 ((s.length : Int) - 1) = false := by simpa using q4
    have hf : chkOk s m = false := by simp [chkOk, q4']
    repeat' (first | omega | (simp -dsimp [E33, ri, cellp, ints, q1', q2, q3, q4', p1, p2, ws, hf]) | (refine Also.intro ?_ fun _ => ?_) | (refine Hold.intro fun _ => ?_) | (refine And.intro ?_ ?_))
  by_cases q5 : risB m = true
  case neg =>
    have q5' : risB m = false := by simpa using q5
    have hf : chkOk s m = false := by simp [chkOk, q5']
    repeat' (first | omega | (simp -dsimp [E33, ri, cellp, ints, q1', q2, q3, q4, q5', p1, p2, ws, hf]) | (refine Also.intro ?_ fun _ => ?_) | (refine Hold.intro fun _ => ?_) | (refine And.intro ?_ ?_))
  have hf : chkOk s m = true := by simp [chkOk, q1, q2, q3, q4, q5]
  repeat' (first | omega | (simp -dsimp [E33, ri, cellp, ints, q1', q2, q3, q4, q5, p1, p2, ws, hf]) | (refine Also.intro ?_ fun _ => ?_) | (refine Hold.intro fun _ => ?_) | (refine And.intro ?_ ?_))
theorem ok33 : FnOK Try.prog 33 (.pure CheckS) := pure_fn (E := E33) rfl (.cons ok58 (.cons ok56 (.cons ok73 .nil))) (ok := []) (fn := Try.f33) (by kernel_rfl) (by kernel_rfl) (by kernel_rfl) (by kernel_rfl) rfl (fun _ _ => by simp) b33
theorem allB_fail {l : List Int} {lo hi : Int} {k : Nat} (hk : k < l.length) (h : withinB l[k] lo hi = false) : allB l lo hi = false := by
  simp only [allB, List.all_eq_false]
  exact ⟨l[k], List.getElem_mem hk, by simp [h]⟩
theorem allB_all {l : List Int} {lo hi : Int} (h : ∀ j (hj : j < l.length), withinB l[j] lo hi = true) : allB l lo hi = true := by
  simp only [allB, List.all_eq_true]
  intro x hx
  obtain ⟨j, hj, rfl⟩ := List.getElem_of_mem hx
  exact h j hj
noncomputable abbrev E34 : Env := { P := Try.prog, fn := tbl [(57, .pure withinS)], own := [], key := 3400, nt := 66 }
theorem b34 : PureBody E34 [] Try.f34 CheckS := by
  refine pb ?_
  rintro ⟨s, m⟩ ⟨p1, p2⟩
  simp only at p1 p2
  have ws : IntKind.wrap .i64 ((s.length : Int) - 1) = (s.length : Int) - 1 := wrap_id (by omega) (by omega)
  simp -dsimp [Try.f34, E34, ints]
  by_cases q1 : s.length ≤ 400
  case neg =>
    have q1' : (400 : Int) < s.length := by omega
    have hf : chkOk s m = false := by simp [chkOk, q1]
    repeat' (first | omega | (simp -dsimp [E34, ri, cellp, ints, q1', hf]) | (refine Also.intro ?_ fun _ => ?_) | (refine Hold.intro fun _ => ?_) | (refine And.intro ?_ ?_))
  have q1' : ¬ (400 : Int) < s.length := by omega
  by_cases q3 : withinB m.length 2 9 = true
  case neg =>
    have q3' : withinB m.length 2 9 = false := by simpa using q3
    have hf : chkOk s m = false := by simp [chkOk, q3']
    repeat' (first | omega | (simp -dsimp [E34, ri, cellp, ints, q1', q3', hf]) | (refine Also.intro ?_ fun _ => ?_) | (refine Hold.intro fun _ => ?_) | (refine And.intro ?_ ?_))
  have q3b : 2 ≤ (m.length : Int) ∧ (m.length : Int) ≤ 9 := by simpa [withinB] using q3
  repeat' (first | omega | (simp -dsimp [E34, ri, cellp, ints, q1', q3]) | (refine Also.intro ?_ fun _ => ?_) | (refine Hold.intro fun _ => ?_) | (refine And.intro ?_ ?_))
  refine awp_loop [16, 17, 18, 19, 20, 23, 24, 25, 26, 27, 28, 29, 2, 21, 22, 3] (fun k : { k : Nat // k ≤ s.length ∧ ∀ j (h : j < s.length), j < k → withinB s[j] (-100) 100 = true } => [(3, (true, .int .i64 (k.1 : Nat)))]) (fun k => hps [(3401, { base := 0, blks := [{ z := 2, els := [[V.sl 1 (s.map ri), V.sl 1 (m.map ri)]], ty := 52 }] })] noH) (fun k => s.length - k.1) ⟨0, by omega, fun _ _ h => by omega⟩ ?_ (HLe.refl _) ?_
  · simp [okAll, okv]
  rintro ⟨k, hk, hall⟩
  simp only
  by_cases hk1 : k < s.length
  · have w1 : IntKind.wrap .i64 ((k : Int) + 1) = (k + 1 : Nat) := wrap_id (by omega) (by omega)
    by_cases hv : withinB s[k] (-100) 100 = true
    · simp -dsimp [hk1, ri, hv]
      repeat' (first | omega | (simp -dsimp [E34, ri, cellp, ints, hk1, hv, w1]) | (refine Also.intro ?_ fun _ => ?_) | (refine Hold.intro fun _ => ?_) | (refine And.intro ?_ ?_))
      refine ⟨k + 1, tle_chain rfl ?_, HLe.refl _, ⟨by omega, fun j h hj => ?_⟩, by omega⟩
      · simp [okAll, okv]
      · by_cases hjk : j = k
        · subst hjk; exact hv
        · exact hall j h (by omega)
    · have hv' : withinB s[k] (-100) 100 = false := by simpa using hv
      have hf : chkOk s m = false := by simp [chkOk, allB_fail hk1 hv']
      simp -dsimp [hk1, ri, hv', hf]
      repeat' (first | omega | (simp -dsimp [E34, ri, cellp, ints, hk1, hv', hf]) | (refine Also.intro ?_ fun _ => ?_) | (refine Hold.intro fun _ => ?_) | (refine And.intro ?_ ?_))
  have q2 : allB s (-100) 100 = true := allB_all fun j h => hall j h (by omega)
  clear hall hk
  simp -dsimp [hk1]
  repeat' (first | omega | (simp -dsimp [E34, ri, cellp, ints, hk1]) | (refine Also.intro ?_ fun _ => ?_) | (refine Hold.intro fun _ => ?_) | (refine And.intro ?_ ?_))
  refine awp_loop [30, 31, 32, 33, 34, 37, 38, 39, 40, 41, 42, 43, 44, 45, 46, 47, 48, 49, 50, 51, 52, 53, 54, 55, 56, 57, 58, 59, 60, 61, 62, 63, 64, 65, 2, 35, 36, 4] (fun k : { k : Nat // k ≤ m.length ∧ (∀ j (h : j < m.length), j < k → withinB m[j] 0 ((s.length : Int) - 1) = true) ∧ ∀ j, j < k → risAt m j = true } => [(4, (true, .int .i64 (k.1 : Nat)))]) (fun k => hps [(3401, { base := 0, blks := [{ z := 2, els := [[V.sl 1 (s.map ri), V.sl 1 (m.map ri)]], ty := 52 }] })] noH) (fun k => m.length - k.1) ⟨0, by omega, fun _ _ h => by omega, fun _ h => by omega⟩ ?_ (HLe.refl _) ?_
  · simp [okAll, okv]
  rintro ⟨k, hk, hall, hris⟩
  simp only
  by_cases hk1 : k < m.length
  case neg =>
    have q4 : allB m 0 ((s.length : Int) - 1) = true := allB_all fun j h => hall j h (by omega)
    have hke : k = m.length := by omega
    subst hke
    have q5 := risB_all hris
    have hf : chkOk s m = true := by simp [chkOk, q1, q2, q3, q4, q5]
    simp -dsimp [hf]
    repeat' (first | omega | (simp -dsimp [E34, ri, cellp, ints, hf]) | (refine Also.intro ?_ fun _ => ?_) | (refine Hold.intro fun _ => ?_) | (refine And.intro ?_ ?_))
  have w1 : IntKind.wrap .i64 ((k : Int) + 1) = (k + 1 : Nat) := wrap_id (by omega) (by omega)
  by_cases hv : withinB m[k] 0 ((s.length : Int) - 1) = true
  case neg =>
    have hv' : withinB m[k] 0 ((s.length : Int) - 1) = false := by simpa using hv
    have hf : chkOk s m = false := by simp [chkOk, allB_fail hk1 hv']
    simp -dsimp [hk1, ri, ws, hv', hf]
    repeat' (first | omega | (simp -dsimp [E34, ri, cellp, ints, hk1, ws, hv', hf]) | (refine Also.intro ?_ fun _ => ?_) | (refine Hold.intro fun _ => ?_) | (refine And.intro ?_ ?_))
  by_cases hk0 : k = 0
  · subst hk0
    simp -dsimp [hk1, ri, ws, hv]
    repeat' (first | omega | (simp -dsimp [E34, ri, cellp, ints, hk1, ws, hv]) | (refine Also.intro ?_ fun _ => ?_) | (refine Hold.intro fun _ => ?_) | (refine And.intro ?_ ?_))
    refine ⟨1, tle_chain rfl ?_, HLe.refl _, ⟨hk1, fun j h hj => ?_, fun j hj => ?_⟩, by omega⟩
    · simp [okAll, okv]
      exact wrap_id (by omega) (by omega)
    · have : j = 0 := by omega
      subst this; exact hv
    · have : j = 0 := by omega
      subst this; rfl
  have hk2 : k - 1 < m.length := by omega
  have hkp : 0 < k := by omega
  have wk : IntKind.wrap .i64 ((k : Int) - 1) = (k - 1 : Nat) := by rw [wrap_id (by omega) (by omega)]; omega
  have e1 : m.getD (k - 1) 0 = m[k - 1] := by simp [List.getD, List.getElem?_eq_getElem hk2]
  have e2 : m.getD k 0 = m[k] := by simp [List.getD, List.getElem?_eq_getElem hk1]
  have hat : risAt m k = decide (m[k - 1] < m[k]) := by
    rw [risAt, e1, e2, show (k == 0) = false by simpa using hk0, Bool.false_or]
  by_cases hc : m[k - 1] < m[k]
  · have hc' : ¬ m[k] ≤ m[k - 1] := by omega
    simp -dsimp [hk1, hk2, hkp, ri, ws, hv]
    repeat' (first | omega | (simp -dsimp [E34, ri, cellp, ints, hk1, hk2, hkp, ws, hv, wk, w1, hc']) | (refine Also.intro ?_ fun _ => ?_) | (refine Hold.intro fun _ => ?_) | (refine And.intro ?_ ?_))
    refine ⟨k + 1, tle_chain rfl ?_, HLe.refl _, ⟨hk1, fun j h hj => ?_, fun j hj => ?_⟩, by omega⟩
    · simp [okAll, okv]
    · by_cases hjk : j = k
      · subst hjk; exact hv
      · exact hall j h (by omega)
    · by_cases e : j = k
      · subst e; rw [hat]; simpa using hc
      · exact hris j (by omega)
  · have hc' : m[k] ≤ m[k - 1] := by omega
    have hf : chkOk s m = false := by simp [chkOk, risB_fail hk1 (by rw [hat]; simpa using hc)]
    simp -dsimp [hk1, hk2, hkp, ri, ws, hv, hf]
    repeat' (first | omega | (simp -dsimp [E34, ri, cellp, ints, hk1, hk2, hkp, ws, hv, wk, hc', hf]) | (refine Also.intro ?_ fun _ => ?_) | (refine Hold.intro fun _ => ?_) | (refine And.intro ?_ ?_))
theorem ok34 : FnOK Try.prog 34 (.pure CheckS) := pure_fn (E := E34) rfl (.cons ok57 .nil) (ok := []) (fn := Try.f34) (by kernel_rfl) (by kernel_rfl) (by kernel_rfl) (by kernel_rfl) rfl (fun _ _ => by simp) b34
def valZ (s m : List Int) (mark k n : Nat) : Int :=
  let a := m.getD mark 0
  let p := (k : Int) * (m.getD (mark + 1) 0 - a)
  if p.tmod n = 0 then n * s.getD (a + p.tdiv n).toNat 0 else (n - p.tmod n) * s.getD (a + p.tdiv n).toNat 0 + p.tmod n * s.getD (a + p.tdiv n + 1).toNat 0
theorem chk_len {s m : List Int} (h : chkOk s m = true) : s.length ≤ 400 ∧ 2 ≤ m.length ∧ m.length ≤ 9 := by
  simp only [chkOk, Bool.and_eq_true, withinB, decide_eq_true_eq] at h
  omega
theorem mark_facts {s m : List Int} (h : chkOk s m = true) {mark k n : Nat} (hm : mark + 1 < m.length) (hk : k < n) (hn : n ≤ 24) : ∃ a b q r : Nat, m[mark] = a ∧ m[mark + 1] = b ∧ a < b ∧ b < s.length ∧ ((k : Int) * ((b : Int) - a)).tdiv n = q ∧ ((k : Int) * ((b : Int) - a)).tmod n = r ∧ r < n ∧ a + q + 1 ≤ b ∧ 0 ≤ (k : Int) * ((b : Int) - a) ∧ (k : Int) * ((b : Int) - a) ≤ 9600 := by
  have hc := chk_len h
  simp only [chkOk, Bool.and_eq_true, withinB, decide_eq_true_eq, allB, List.all_eq_true, risB, List.mem_range] at h
  obtain ⟨⟨⟨⟨h1, h2⟩, h3⟩, h4⟩, h5⟩ := h
  have ha := h4 m[mark] (List.getElem_mem _)
  have hb := h4 m[mark + 1] (List.getElem_mem _)
  have hr := h5 (mark + 1) hm
  have e1 : m.getD mark 0 = m[mark] := by simp [List.getD, List.getElem?_eq_getElem (show mark < m.length by omega)]
  have e2 : m.getD (mark + 1) 0 = m[mark + 1] := by simp [List.getD, List.getElem?_eq_getElem hm]
  rw [risAt, show (mark + 1 == 0) = false by simp, Bool.false_or, Nat.add_sub_cancel, e1, e2] at hr
  simp only [decide_eq_true_eq] at hr
  generalize m[mark] = a at *
  generalize m[mark + 1] = b at *
  obtain ⟨a, rfl⟩ := Int.eq_ofNat_of_zero_le ha.1
  obtain ⟨b, rfl⟩ := Int.eq_ofNat_of_zero_le hb.1
  have hab : a < b := by omega
  have ep : (k : Int) * ((b : Int) - a) = ((k * (b - a) : Nat) : Int) := by rw [Int.natCast_mul]; congr 1; omega
  have hq : k * (b - a) / n < b - a := by
    rw [Nat.div_lt_iff_lt_mul (by omega), Nat.mul_comm (b - a)]
    exact Nat.mul_lt_mul_of_pos_right hk (by omega)
  have hp : k * (b - a) ≤ 24 * 400 := Nat.mul_le_mul (by omega) (by omega)
  refine ⟨a, b, k * (b - a) / n, k * (b - a) % n, rfl, rfl, hab, by omega, by rw [ep]; rfl, by rw [ep]; rfl, Nat.mod_lt _ (by omega), by omega, by rw [ep]; omega, by rw [ep]; omega⟩
abbrev valS : PSpec := { dom := List Int × List Int × Nat × Nat × Nat, enc := fun d => [.agg [ints d.1, ints d.2.1], .int .i64 (d.2.2.1 : Int), .int .i64 (d.2.2.2.1 : Int), .int .i64 (d.2.2.2.2 : Int)], dec := fun l => (((l.getD 0 .top).cs.getD 0 .top).toInts, ((l.getD 0 .top).cs.getD 1 .top).toInts, (l.getD 1 .top).toInt.toNat, (l.getD 2 .top).toInt.toNat, (l.getD 3 .top).toInt.toNat), pre := fun d => chkOk d.1 d.2.1 = true ∧ d.2.2.1 + 1 < d.2.1.length ∧ d.2.2.2.1 < d.2.2.2.2 ∧ d.2.2.2.2 ≤ 24, res := fun d => .int .i64 (valZ d.1 d.2.1 d.2.2.1 d.2.2.2.1 d.2.2.2.2) }
theorem samp {s m : List Int} (h : chkOk s m = true) (i : Nat) : -100 ≤ s.getD i 0 ∧ s.getD i 0 ≤ 100 := by
  simp only [chkOk, Bool.and_eq_true, allB, List.all_eq_true, withinB, decide_eq_true_eq] at h
  exact getD_bound (c := 100) (by omega) h.1.1.1.2 i
noncomputable abbrev E74 : Env := { P := Try.prog, fn := tbl [], own := [], key := 7400, nt := 71 }
theorem b74 : PureBody E74 [] Try.f74 valS := by
  refine pb ?_
  rintro ⟨s, m, mark, k, n⟩ ⟨hv, hm, hk, hn⟩
  simp only at hv hm hk hn
  obtain ⟨a, b, q, r, e1, e2, hab, hbs, eq, er, hrn, haq, hp0, hp1⟩ := mark_facts hv hm hk hn
  have hsl := (chk_len hv).1
  have hm1 : mark < m.length := by omega
  have w1 : IntKind.wrap .i64 ((mark : Int) + 1) = (mark + 1 : Nat) := by rw [wrap_id (by have := (chk_len hv).2.2; omega) (by have := (chk_len hv).2.2; omega)]; omega
  have w2 : IntKind.wrap .i64 ((b : Int) - a) = (b : Int) - a := wrap_id (by omega) (by omega)
  have w3 : IntKind.wrap .i64 ((k : Int) * ((b : Int) - a)) = (k : Int) * ((b : Int) - a) := wrap_id (by omega) (by omega)
  have w4 : IntKind.wrap .i64 (q : Int) = q := wrap_id (by omega) (by omega)
  obtain ⟨x, hx⟩ : ∃ x, x = a + q := ⟨_, rfl⟩
  obtain ⟨y, hy⟩ : ∃ y, y = a + q + 1 := ⟨_, rfl⟩
  have w5 : IntKind.wrap .i64 ((a : Int) + q) = (x : Int) := by rw [wrap_id (by omega) (by omega)]; omega
  have w6 : IntKind.wrap .i64 ((x : Int) + 1) = (y : Int) := by rw [wrap_id (by omega) (by omega)]; omega
  have i1 : x < s.length := by omega
  have i2 : y < s.length := by omega
  have hnz : ¬ n = 0 := by omega
  have g1 : s.getD x 0 = s[x] := by simp [List.getD, List.getElem?_eq_getElem i1]
  have g2 : s.getD y 0 = s[y] := by simp [List.getD, List.getElem?_eq_getElem i2]
  have b1 := samp hv x
  have b2 := samp hv y
  rw [g1] at b1
  rw [g2] at b2
  have d1 : m.getD mark 0 = a := by rw [← e1]; simp [List.getD, List.getElem?_eq_getElem hm1]
  have d2 : m.getD (mark + 1) 0 = b := by rw [← e2]; simp [List.getD, List.getElem?_eq_getElem hm]
  have t1 : ((a : Int) + q).toNat = x := by omega
  have t2 : ((a : Int) + q + 1).toNat = y := by omega
  have m1 := mul_abs (a := (n : Int)) (b := s[x]) (m := 24) (n := 100) (by omega) (by omega) (by omega) (by omega)
  have m2 := mul_abs (a := (n : Int) - r) (b := s[x]) (m := 24) (n := 100) (by omega) (by omega) (by omega) (by omega)
  have m3 := mul_abs (a := (r : Int)) (b := s[y]) (m := 24) (n := 100) (by omega) (by omega) (by omega) (by omega)
  have w7 : IntKind.wrap .i64 ((n : Int) * s[x]) = (n : Int) * s[x] := wrap_id (by omega) (by omega)
  have w8 : IntKind.wrap .i64 ((n : Int) - r) = (n : Int) - r := wrap_id (by omega) (by omega)
  have w9 : IntKind.wrap .i64 (((n : Int) - r) * s[x]) = ((n : Int) - r) * s[x] := wrap_id (by omega) (by omega)
  have w10 : IntKind.wrap .i64 ((r : Int) * s[y]) = (r : Int) * s[y] := wrap_id (by omega) (by omega)
  have w11 : IntKind.wrap .i64 (((n : Int) - r) * s[x] + (r : Int) * s[y]) = ((n : Int) - r) * s[x] + (r : Int) * s[y] := wrap_id (by omega) (by omega)
  have hval : valZ s m mark k n = if (r : Int) = 0 then (n : Int) * s[x] else ((n : Int) - r) * s[x] + (r : Int) * s[y] := by
    simp only [valZ, d1, d2, eq, er, t1, t2, g1, g2]
  by_cases hr0 : r = 0
  · rw [if_pos (by omega)] at hval
    simp -dsimp [Try.f74, E74, ints, hm1, hm, ri, e1, e2, w1]
    repeat' (first | omega | (simp -dsimp [E74, ri, cellp, ints, hm1, hm, e1, e2, w1, w2, w3, eq, er, w4, w5, w6, i1, i2, hnz, hr0, w7, hval]) | (refine Also.intro ?_ fun _ => ?_) | (refine Hold.intro fun _ => ?_) | (refine And.intro ?_ ?_))
  · rw [if_neg (by omega)] at hval
    simp -dsimp [Try.f74, E74, ints, hm1, hm, ri, e1, e2, w1]
    repeat' (first | omega | (simp -dsimp [E74, ri, cellp, ints, hm1, hm, e1, e2, w1, w2, w3, eq, er, w4, w5, w6, i1, i2, hnz, hr0, w8, w9, w10, w11, hval]) | (refine Also.intro ?_ fun _ => ?_) | (refine Hold.intro fun _ => ?_) | (refine And.intro ?_ ?_))
theorem ok74 : FnOK Try.prog 74 (.pure valS) := pure_fn (E := E74) rfl LOK.nil (ok := []) (fn := Try.f74) (by kernel_rfl) (by kernel_rfl) (by kernel_rfl) (by kernel_rfl) rfl (fun _ _ => by simp) b74
theorem valZ_bound {s m : List Int} (hv : chkOk s m = true) {mark k n : Nat} (hm : mark + 1 < m.length) (hk : k < n) (hn : n ≤ 24) : -4800 ≤ valZ s m mark k n ∧ valZ s m mark k n ≤ 4800 := by
  obtain ⟨a, b, q, r, e1, e2, hab, hbs, eq, er, hrn, haq, hp0, hp1⟩ := mark_facts hv hm hk hn
  have hsl := (chk_len hv).1
  have hm1 : mark < m.length := by omega
  have w1 : IntKind.wrap .i64 ((mark : Int) + 1) = (mark + 1 : Nat) := by rw [wrap_id (by have := (chk_len hv).2.2; omega) (by have := (chk_len hv).2.2; omega)]; omega
  have w2 : IntKind.wrap .i64 ((b : Int) - a) = (b : Int) - a := wrap_id (by omega) (by omega)
  have w3 : IntKind.wrap .i64 ((k : Int) * ((b : Int) - a)) = (k : Int) * ((b : Int) - a) := wrap_id (by omega) (by omega)
  have w4 : IntKind.wrap .i64 (q : Int) = q := wrap_id (by omega) (by omega)
  obtain ⟨x, hx⟩ : ∃ x, x = a + q := ⟨_, rfl⟩
  obtain ⟨y, hy⟩ : ∃ y, y = a + q + 1 := ⟨_, rfl⟩
  have w5 : IntKind.wrap .i64 ((a : Int) + q) = (x : Int) := by rw [wrap_id (by omega) (by omega)]; omega
  have w6 : IntKind.wrap .i64 ((x : Int) + 1) = (y : Int) := by rw [wrap_id (by omega) (by omega)]; omega
  have i1 : x < s.length := by omega
  have i2 : y < s.length := by omega
  have hnz : ¬ n = 0 := by omega
  have g1 : s.getD x 0 = s[x] := by simp [List.getD, List.getElem?_eq_getElem i1]
  have g2 : s.getD y 0 = s[y] := by simp [List.getD, List.getElem?_eq_getElem i2]
  have b1 := samp hv x
  have b2 := samp hv y
  rw [g1] at b1
  rw [g2] at b2
  have d1 : m.getD mark 0 = a := by rw [← e1]; simp [List.getD, List.getElem?_eq_getElem hm1]
  have d2 : m.getD (mark + 1) 0 = b := by rw [← e2]; simp [List.getD, List.getElem?_eq_getElem hm]
  have t1 : ((a : Int) + q).toNat = x := by omega
  have t2 : ((a : Int) + q + 1).toNat = y := by omega
  have m1 := mul_abs (a := (n : Int)) (b := s[x]) (m := 24) (n := 100) (by omega) (by omega) (by omega) (by omega)
  have m2 := mul_abs (a := (n : Int) - r) (b := s[x]) (m := 24) (n := 100) (by omega) (by omega) (by omega) (by omega)
  have m3 := mul_abs (a := (r : Int)) (b := s[y]) (m := 24) (n := 100) (by omega) (by omega) (by omega) (by omega)
  have w7 : IntKind.wrap .i64 ((n : Int) * s[x]) = (n : Int) * s[x] := wrap_id (by omega) (by omega)
  have w8 : IntKind.wrap .i64 ((n : Int) - r) = (n : Int) - r := wrap_id (by omega) (by omega)
  have w9 : IntKind.wrap .i64 (((n : Int) - r) * s[x]) = ((n : Int) - r) * s[x] := wrap_id (by omega) (by omega)
  have w10 : IntKind.wrap .i64 ((r : Int) * s[y]) = (r : Int) * s[y] := wrap_id (by omega) (by omega)
  have w11 : IntKind.wrap .i64 (((n : Int) - r) * s[x] + (r : Int) * s[y]) = ((n : Int) - r) * s[x] + (r : Int) * s[y] := wrap_id (by omega) (by omega)
  have hval : valZ s m mark k n = if (r : Int) = 0 then (n : Int) * s[x] else ((n : Int) - r) * s[x] + (r : Int) * s[y] := by
    simp only [valZ, d1, d2, eq, er, t1, t2, g1, g2]
  rw [hval]
  split <;> omega
def avStep (s m : List Int) (n mark : Nat) (o : List Int) (k : Nat) : List Int := o.set k (o.getD k 0 + valZ s m mark k n)
def avIn (s m : List Int) (n mark : Nat) (o : List Int) (k : Nat) : List Int := (List.range k).foldl (avStep s m n mark) o
theorem avIn_succ (s m : List Int) (n mark : Nat) (o : List Int) (k : Nat) : avIn s m n mark o (k + 1) = avStep s m n mark (avIn s m n mark o k) k := by
  simp [avIn, List.range_succ, List.foldl_append]
theorem avIn_len (s m : List Int) (n mark : Nat) (o : List Int) (k : Nat) : (avIn s m n mark o k).length = o.length := by
  induction k with
  | zero => rfl
  | succ k ih => rw [avIn_succ, avStep, List.length_set, ih]
def avTo (s m : List Int) (n mark : Nat) : List Int := (List.range mark).foldl (fun o mk => avIn s m n mk o n) (List.replicate n 0)
theorem avTo_succ (s m : List Int) (n mark : Nat) : avTo s m n (mark + 1) = avIn s m n mark (avTo s m n mark) n := by
  simp [avTo, List.range_succ, List.foldl_append]
theorem avTo_len (s m : List Int) (n mark : Nat) : (avTo s m n mark).length = n := by
  induction mark with
  | zero => simp [avTo]
  | succ k ih => rw [avTo_succ, avIn_len, ih]
theorem avIn_bound {s m : List Int} (hv : chkOk s m = true) {mark n : Nat} (hm : mark + 1 < m.length) (hn : n ≤ 24) {o : List Int} {c : Int} (hc : 0 ≤ c) (ho : ∀ x ∈ o, -c ≤ x ∧ x ≤ c) : ∀ k, k ≤ n → ∀ x ∈ avIn s m n mark o k, -(c + k * 4800) ≤ x ∧ x ≤ c + k * 4800 := by
  intro k
  induction k with
  | zero => intro _ x hx; have := ho x hx; simp; exact this
  | succ k ih =>
    intro hk x hx
    have ih := ih (by omega)
    rw [avIn_succ, avStep] at hx
    rcases List.mem_or_eq_of_mem_set hx with hx | hx
    · have := ih x hx; omega
    · have h1 := getD_bound (c := c + k * 4800) (by omega) ih k
      have h2 := valZ_bound hv hm (show k < n by omega) hn
      omega
theorem avTo_bound {s m : List Int} (hv : chkOk s m = true) {n : Nat} (hn : n ≤ 24) : ∀ mark, mark + 1 ≤ m.length → ∀ x ∈ avTo s m n mark, -((mark : Int) * 115200) ≤ x ∧ x ≤ (mark : Int) * 115200 := by
  intro mark
  induction mark with
  | zero => intro _ x hx; simp [avTo] at hx; omega
  | succ k ih =>
    intro hk x hx
    rw [avTo_succ] at hx
    have := avIn_bound hv (mark := k) (by omega) hn (c := (k : Int) * 115200) (by omega) (ih (by omega)) n (Nat.le_refl _) x hx
    omega
def avR (s m : List Int) (t : Int) : List Int × Int × Int :=
  if chkOk s m then if withinB t 1 24 then (avTo s m t.toNat (m.length - 1), t * (m.length - 1 : Nat), 0) else ([], 0, 1) else ([], 0, 80)
abbrev avS : PSpec := { dom := List Int × List Int × Int, enc := fun d => [.agg [ints d.1, ints d.2.1], .int .i64 d.2.2], dec := fun l => (((l.getD 0 .top).cs.getD 0 .top).toInts, ((l.getD 0 .top).cs.getD 1 .top).toInts, (l.getD 1 .top).toInt), pre := fun d => d.1.length ≤ 9223372036854775807 ∧ d.2.1.length ≤ 9223372036854775807, res := fun d => .tup [ints (avR d.1 d.2.1 d.2.2).1, .int .i64 (avR d.1 d.2.1 d.2.2).2.1, .int .i64 (avR d.1 d.2.1 d.2.2).2.2] }
noncomputable abbrev E36 : Env := { P := Try.prog, fn := tbl [(34, .pure CheckS), (57, .pure withinS), (74, .pure valS)], own := [], key := 3600, nt := 51 }
theorem b36 : PureBody E36 [] Try.f36 avS := by
  refine pb ?_
  rintro ⟨s, m, t⟩ ⟨p1, p2⟩
  simp only at p1 p2
  by_cases hv : chkOk s m = true
  case neg =>
    have hv' : chkOk s m = false := by simpa using hv
    simp -dsimp [Try.f36, E36, ints, p1, p2, hv', avR]
    repeat' (first | omega | (simp -dsimp [E36, ri, cellp, ints, p1, p2, hv', avR]) | (refine Also.intro ?_ fun _ => ?_) | (refine Hold.intro fun _ => ?_) | (refine And.intro ?_ ?_))
  by_cases ht : withinB t 1 24 = true
  case neg =>
    have ht' : withinB t 1 24 = false := by simpa using ht
    simp -dsimp [Try.f36, E36, ints, p1, p2, hv, ht', avR]
    repeat' (first | omega | (simp -dsimp [E36, ri, cellp, ints, p1, p2, hv, ht', avR]) | (refine Also.intro ?_ fun _ => ?_) | (refine Hold.intro fun _ => ?_) | (refine And.intro ?_ ?_))
  have htb : 1 ≤ t ∧ t ≤ 24 := by simpa [withinB] using ht
  obtain ⟨n, rfl⟩ := Int.eq_ofNat_of_zero_le (show 0 ≤ t by omega)
  obtain ⟨c1, c2, c3⟩ := chk_len hv
  have hm2 : 2 ≤ m.length ∧ m.length ≤ 9 := ⟨c2, c3⟩
  have wm : IntKind.wrap .i64 ((m.length : Int) - 1) = (m.length - 1 : Nat) := by rw [wrap_id (by omega) (by omega)]; omega
  have wnm0 : (n : Int) * (m.length - 1 : Nat) ≤ 24 * 8 := Int.mul_le_mul (by omega) (by omega) (by omega) (by omega)
  have wnm1 : 0 ≤ (n : Int) * (m.length - 1 : Nat) := Int.mul_nonneg (by omega) (by omega)
  have wnm : IntKind.wrap .i64 ((n : Int) * (m.length - 1 : Nat)) = (n : Int) * (m.length - 1 : Nat) := wrap_id (by omega) (by omega)
  have hb8 : (n : Int) * 8 ≤ 140737488355328 := by omega
  have hb9 : (n : Int) ≤ 9223372036854775807 := by omega
  have har : avR s m n = (avTo s m n (m.length - 1), (n : Int) * (m.length - 1 : Nat), 0) := by simp [avR, hv, ht]
  simp -dsimp [Try.f36, E36, ints, p1, p2, hv, ht]
  repeat' (first | omega | (simp -dsimp [E36, ri, cellp, ints, p1, p2, hv, ht, wm, hb8, hb9]) | (refine Also.intro ?_ fun _ => ?_) | (refine Hold.intro fun _ => ?_) | (refine And.intro ?_ ?_))
  refine awp_loop [26, 27, 28, 11, 31, 32, 33, 36, 37, 38, 39, 40, 41, 42, 43, 44, 45, 46, 34, 35, 29, 30, 10] (fun mk : Fin m.length => [(10, (true, .int .i64 (mk.1 : Nat)))]) (fun mk => hps [(3621, { base := 0, blks := [{ z := 1, els := (avTo s m n mk.1).map ri, ty := 3 }] }), (3602, { base := 0, blks := [{ z := 2, els := [[V.sl 1 (s.map ri), V.sl 1 (m.map ri)]], ty := 52 }] })] noH) (fun mk => m.length - mk.1) ⟨0, by omega⟩ ?_ (by (try simp -dsimp only [hpush_noH, hpush_hps, hps_over]); refine hle_hps ?_; simp -dsimp [allK, avTo, ri]; repeat' (first | (refine And.intro ?_ ?_) | (refine sLe.same ?_ ?_ <;> (simp; done)) | (refine sLe.clear ?_ ?_ <;> (simp; done)) | (refine sLe.drop 1 ?_ ?_ ?_ <;> (simp; done)))) ?_
  · simp [okAll, okv]
  rintro ⟨mk, hmk⟩
  simp only
  by_cases hm1 : mk < m.length - 1
  case neg =>
    have hme : mk = m.length - 1 := by omega
    subst hme
    have hal := avTo_len s m n (m.length - 1)
    simp -dsimp [har]
    repeat' (first | omega | (simp -dsimp [E36, ri, cellp, ints, har, wm, wnm, hal]) | (refine Also.intro ?_ fun _ => ?_) | (refine Hold.intro fun _ => ?_) | (refine And.intro ?_ ?_))
  have hm' : mk + 1 < m.length := by omega
  have w1 : IntKind.wrap .i64 ((mk : Int) + 1) = (mk + 1 : Nat) := wrap_id (by omega) (by omega)
  have hms := avTo_succ s m n mk
  have hml := avTo_len s m n mk
  have hmb := avTo_bound hv (show n ≤ 24 by omega) mk (by omega)
  generalize avTo s m n mk = o at *
  simp -dsimp [hm1]
  repeat' (first | omega | (simp -dsimp [E36, ri, cellp, ints, hm1]) | (refine Also.intro ?_ fun _ => ?_) | (refine Hold.intro fun _ => ?_) | (refine And.intro ?_ ?_))
  refine awp_loop [31, 32, 33, 36, 37, 38, 39, 40, 41, 42, 43, 44, 45, 46, 34, 35, 11] (fun k : Fin (n + 1) => [(11, (true, .int .i64 (k.1 : Nat)))]) (fun k => hps [(3621, { base := 0, blks := [{ z := 1, els := (avIn s m n mk o k.1).map ri, ty := 3 }] }), (3602, { base := 0, blks := [{ z := 2, els := [[V.sl 1 (s.map ri), V.sl 1 (m.map ri)]], ty := 52 }] })] noH) (fun k => n - k.1) ⟨0, by omega⟩ ?_ (by (try simp -dsimp only [hpush_noH, hpush_hps, hps_over]); refine hle_hps ?_; simp -dsimp [allK, avIn]; repeat' (first | (refine And.intro ?_ ?_) | (refine sLe.same ?_ ?_ <;> (simp; done)) | (refine sLe.clear ?_ ?_ <;> (simp; done)) | (refine sLe.drop 1 ?_ ?_ ?_ <;> (simp; done)))) ?_
  · simp [okAll, okv]
  rintro ⟨k, hk⟩
  simp only
  by_cases hk1 : k < n
  case neg =>
    have hke : k = n := by omega
    subst hke
    simp -dsimp
    repeat' (first | omega | (simp -dsimp [E36, ri, cellp, ints, w1]) | (refine Also.intro ?_ fun _ => ?_) | (refine Hold.intro fun _ => ?_) | (refine And.intro ?_ ?_))
    refine ⟨⟨mk + 1, by omega⟩, tle_kept (kept_upds rfl (kept_forget rfl (kept_upds rfl kept_base))) ?_, (by (try simp -dsimp only [hpush_noH, hpush_hps, hps_over]); refine hle_hps ?_; simp -dsimp [allK, hms]; repeat' (first | (refine And.intro ?_ ?_) | (refine sLe.same ?_ ?_ <;> (simp; done)) | (refine sLe.clear ?_ ?_ <;> (simp; done)) | (refine sLe.drop 1 ?_ ?_ ?_ <;> (simp; done)))), by simp only; omega⟩
    simp [okAll, okv]
  have w2 : IntKind.wrap .i64 ((k : Int) + 1) = (k + 1 : Nat) := wrap_id (by omega) (by omega)
  have his := avIn_succ s m n mk o k
  have hil := avIn_len s m n mk o k
  have hib := avIn_bound hv hm' (show n ≤ 24 by omega) (c := (mk : Int) * 115200) (by omega) hmb k (by omega)
  generalize avIn s m n mk o k = u at *
  have hku : k < u.length := by omega
  have hun : u.length = n := by omega
  have eu : u.getD k 0 = u[k] := by simp [List.getD, List.getElem?_eq_getElem hku]
  have b1 := hib u[k] (List.getElem_mem hku)
  have b2 := valZ_bound hv hm' hk1 (show n ≤ 24 by omega)
  have w3 : IntKind.wrap .i64 (u[k] + valZ s m mk k n) = u[k] + valZ s m mk k n := wrap_id (by omega) (by omega)
  have hset : (u.map ri).set k [.int .i64 (u[k] + valZ s m mk k n)] = (avIn s m n mk o (k + 1)).map ri := by
    rw [his, avStep, eu, List.map_set]; rfl
  have hn24 : n ≤ 24 := by omega
  have hm'' : mk + 1 < m.length := hm'
  have hkn : (k : Int) < n := by omega
  simp -dsimp [hk1, hkn, ri]
  repeat' (first | omega | (simp -dsimp [E36, ri, cellp, ints, hk1, hkn, hku, hun, w2, w3, hset, hv, hm'', hn24, -List.map_set]) | (refine Also.intro ?_ fun _ => ?_) | (refine Hold.intro fun _ => ?_) | (refine And.intro ?_ ?_))
  refine ⟨⟨k + 1, by omega⟩, tle_chain rfl ?_, (by (try simp -dsimp only [hpush_noH, hpush_hps, hps_over]); refine hle_hps ?_; simp -dsimp [allK, ]; repeat' (first | (refine And.intro ?_ ?_) | (refine sLe.same ?_ ?_ <;> (simp; done)) | (refine sLe.clear ?_ ?_ <;> (simp; done)) | (refine sLe.drop 1 ?_ ?_ ?_ <;> (simp; done)))), by simp only; omega⟩
  simp [okAll, okv]
theorem ok36 : FnOK Try.prog 36 (.pure avS) := pure_fn (E := E36) rfl (.cons ok34 (.cons ok57 (.cons ok74 .nil))) (ok := []) (fn := Try.f36) (by kernel_rfl) (by kernel_rfl) (by kernel_rfl) (by kernel_rfl) rfl (fun _ _ => by simp) b36
end Go.Sx

