/- A part of a proof; no conditions. -/
import Derived.Test.YtnpdjaikmdagmaaGreatDoorP10
import Derived.Test.YtnpdjaikmdagmaaGreatDoorP11
set_option linter.unusedSimpArgs false
set_option linter.unusedVariables false
set_option linter.unusedSectionVars false
section
/- Parts: numbers within bounds, the errors of a series. No conditions. -/
set_option linter.unusedSimpArgs false
set_option maxRecDepth 100000
set_option maxHeartbeats 1000000
namespace Go.Sx
open Go.Proofs

/-- scrap and store. -/
instance : Gls := ⟨fun g => if g = 0 then some (.ip 2 [[.int .i64 (-1), .int .i64 (-1)]] 0 0) else if g = 1 then some (.ip 2 [[.int .i64 (-2), .int .i64 (-2)]] 0 0) else none⟩
def withinB (n lo hi : Int) : Bool := decide (lo ≤ n ∧ n ≤ hi)
abbrev withinS : PSpec := { dom := Int × Int × Int, enc := fun d => [.int .i64 d.1, .int .i64 d.2.1, .int .i64 d.2.2], dec := fun l => ((l.getD 0 .top).toInt, (l.getD 1 .top).toInt, (l.getD 2 .top).toInt), pre := fun _ => True, res := fun d => .bool (withinB d.1 d.2.1 d.2.2) }
noncomputable abbrev E20 : Env := { P := Tryz.prog, fn := tbl [], own := [], key := 2000, nt := 15 }
theorem b20 : PureBody E20 [] Tryz.f20 withinS := by
  refine pb ?_
  rintro ⟨n, lo, hi⟩ _
  simp -dsimp [Tryz.f20, E20, withinB]
  repeat' (first | omega | (simp -dsimp [E20, ri, cellp, ints, withinB]) | (refine Also.intro ?_ fun _ => ?_) | (refine Hold.intro fun _ => ?_) | (refine And.intro ?_ ?_))
theorem ok20 : FnOK Tryz.prog 20 (.pure withinS) := pure_fn (E := E20) rfl LOK.nil (ok := []) (fn := Tryz.f20) (by kernel_rfl) (by kernel_rfl) (by kernel_rfl) (by kernel_rfl) rfl (fun _ _ => by simp) b20
noncomputable abbrev E37 : Env := { P := Tryz.prog, fn := tbl [], own := [], key := 3700, nt := 15 }
theorem b37 : PureBody E37 [] Tryz.f37 withinS := by
  refine pb ?_
  rintro ⟨n, lo, hi⟩ _
  simp -dsimp [Tryz.f37, E37, withinB]
  repeat' (first | omega | (simp -dsimp [E37, ri, cellp, ints, withinB]) | (refine Also.intro ?_ fun _ => ?_) | (refine Hold.intro fun _ => ?_) | (refine And.intro ?_ ?_))
theorem ok37 : FnOK Tryz.prog 37 (.pure withinS) := pure_fn (E := E37) rfl LOK.nil (ok := []) (fn := Tryz.f37) (by kernel_rfl) (by kernel_rfl) (by kernel_rfl) (by kernel_rfl) rfl (fun _ _ => by simp) b37
def cellp (n : Int) : V := .ip 1 [[.int .i64 n]] 0 0
def allB (l : List Int) (lo hi : Int) : Bool := l.all fun n => withinB n lo hi


/-! checkSeries -/
abbrev outS80 : PSpec := { dom := Int, enc := fun d => [.int .i64 d], dec := fun l => (l.getD 0 .top).toInt, pre := fun _ => True, res := fun d => .bool (!withinB d (-1000000) 1000000) }
noncomputable abbrev E108 : Env := { P := Tryz.prog, fn := tbl [(20, .pure withinS)], own := [], key := 10800, nt := 6 }
theorem b108 : PureBody E108 [] Tryz.f108 outS80 := by
  refine pb ?_
  rintro n _
  simp -dsimp [Tryz.f108, E108]
  repeat' (first | omega | (simp -dsimp [E108, ri, cellp, ints, *]) | (refine Also.intro ?_ fun _ => ?_) | (refine Hold.intro fun _ => ?_) | (refine And.intro ?_ ?_))
theorem ok108 : FnOK Tryz.prog 108 (.pure outS80) := pure_fn (E := E108) rfl (.cons ok20 .nil) (ok := []) (fn := Tryz.f108) (by kernel_rfl) (by kernel_rfl) (by kernel_rfl) (by kernel_rfl) rfl (fun _ _ => by simp) b108
abbrev idxS92 : PSpec := { dom := List Int, enc := fun d => [ints d, .fn 108 []], dec := fun l => (l.getD 0 .top).toInts, pre := fun d => d.length ≤ 9223372036854775807, res := fun d => .int .i64 (idxZ d fun n => !withinB n (-1000000) 1000000) }
noncomputable abbrev E128 : Env := { P := Tryz.prog, fn := tbl [(108, .pure outS80)], own := [], key := 12800, nt := 19 }
theorem b128 : PureBody E128 [] Tryz.f128 idxS92 := by
  refine pb ?_
  rintro l hl
  simp -dsimp [Tryz.f128, E128, cellp, ints]
  refine awp_loop [9, 10, 5, 11, 12, 13, 14, 15, 16, 17, 4, 18, 8] (fun k : { k : Nat // k ≤ l.length ∧ ∀ j (h : j < l.length), j < k → withinB l[j] (-1000000) 1000000 = true } => [(8, (true, .int .i64 k.1))]) (fun _ => noH) (fun k => l.length - k.1) ⟨0, by omega, fun _ _ h => by omega⟩ ?_ (HLe.refl _) ?_
  · simp [okAll, okv]
  rintro ⟨k, hk, hall⟩
  simp -dsimp [ri]
  repeat' (first | omega | (simp -dsimp [E128, ri, cellp, ints, *]) | (refine Also.intro ?_ fun _ => ?_) | (refine Hold.intro fun _ => ?_) | (refine And.intro ?_ ?_))
  · rename_i h1 h2
    exact (idxZ_at l _ h1 (by simp [h2]) (fun j h hj => by simp [hall j h hj])).symm
  · rename_i h1 h2
    refine ⟨k + 1, tle_chain rfl ?_, HLe.refl _, ⟨by omega, fun j h hj => ?_⟩, by omega⟩
    · simp [okAll, okv]
      exact wrap_id (by omega) (by omega)
    · by_cases hjk : j = k
      · subst hjk; exact h2
      · exact hall j h (by omega)
  · exact (idxZ_none l _ (fun j h => by simp [hall j h (by omega)])).symm
theorem ok128 : FnOK Tryz.prog 128 (.pure idxS92) := pure_fn (E := E128) rfl (.cons ok108 .nil) (ok := []) (fn := Tryz.f128) (by kernel_rfl) (by kernel_rfl) (by kernel_rfl) (by kernel_rfl) rfl (fun _ _ => by simp) b128
abbrev anyS74 : PSpec := { idxS92 with res := fun d => .bool (d.any fun n => !withinB n (-1000000) 1000000) }
noncomputable abbrev E78 : Env := { P := Tryz.prog, fn := tbl [(128, .pure idxS92)], own := [], key := 7800, nt := 9 }
theorem b78 : PureBody E78 [] Tryz.f78 anyS74 := by
  refine pb ?_
  rintro l hl
  simp -dsimp [Tryz.f78, E78, ints, hl]
  repeat' (first | omega | (simp -dsimp [E78, ri, cellp, ints, hl]) | (refine Also.intro ?_ fun _ => ?_) | (refine Hold.intro fun _ => ?_) | (refine And.intro ?_ ?_))
  exact idxZ_any l _
theorem ok78 : FnOK Tryz.prog 78 (.pure anyS74) := pure_fn (E := E78) rfl (.cons ok128 .nil) (ok := []) (fn := Tryz.f78) (by kernel_rfl) (by kernel_rfl) (by kernel_rfl) (by kernel_rfl) rfl (fun _ _ => by simp) b78
def serE (l : List Int) : Int := if 300 < l.length then 2 else if allB l (-1000000) 1000000 then 0 else 1
abbrev serS : PSpec := { dom := List Int, enc := fun d => [ints d], dec := fun l => (l.getD 0 .top).toInts, pre := fun d => d.length ≤ 9223372036854775807, res := fun d => .int .i64 (serE d) }
noncomputable abbrev E63 : Env := { P := Tryz.prog, fn := tbl [(78, .pure anyS74)], own := [], key := 6300, nt := 8 }
theorem b63 : PureBody E63 [] Tryz.f63 serS := by
  refine pb ?_
  rintro l hl
  have hany : (l.any fun n => !withinB n (-1000000) 1000000) = !allB l (-1000000) 1000000 := by simp [allB, List.not_all_eq_any_not]
  by_cases h1 : 300 < l.length
  · have e1 : (300 : Int) < l.length := by omega
    simp -dsimp [Tryz.f63, E63, serE, h1]
    repeat' (first | omega | (simp -dsimp [E63, ri, cellp, ints, e1, hl, h1]) | (refine Also.intro ?_ fun _ => ?_) | (refine Hold.intro fun _ => ?_) | (refine And.intro ?_ ?_))
  · have e1 : ¬ (300 : Int) < l.length := by omega
    cases h2 : allB l (-1000000) 1000000
    · rw [h2] at hany
      simp -dsimp [Tryz.f63, E63, serE, h1, h2]
      repeat' (first | omega | (simp -dsimp [E63, ri, cellp, ints, e1, hl, h1, hany]) | (refine Also.intro ?_ fun _ => ?_) | (refine Hold.intro fun _ => ?_) | (refine And.intro ?_ ?_))
    · rw [h2] at hany
      simp -dsimp [Tryz.f63, E63, serE, h1, h2]
      repeat' (first | omega | (simp -dsimp [E63, ri, cellp, ints, e1, hl, h1, hany]) | (refine Also.intro ?_ fun _ => ?_) | (refine Hold.intro fun _ => ?_) | (refine And.intro ?_ ?_))
theorem ok63 : FnOK Tryz.prog 63 (.pure serS) := pure_fn (E := E63) rfl (.cons ok78 .nil) (ok := []) (fn := Tryz.f63) (by kernel_rfl) (by kernel_rfl) (by kernel_rfl) (by kernel_rfl) rfl (fun _ _ => by simp) b63
def dist (a b : Int) : Int := max (a - b) (b - a)
abbrev distS : PSpec := { dom := Int × Int, enc := fun d => [.int .i64 d.1, .int .i64 d.2], dec := fun l => ((l.getD 0 .top).toInt, (l.getD 1 .top).toInt), pre := fun d => (-4000000000000 ≤ d.1 ∧ d.1 ≤ 4000000000000) ∧ -4000000000000 ≤ d.2 ∧ d.2 ≤ 4000000000000, res := fun d => .int .i64 (dist d.1 d.2) }
noncomputable abbrev E111 : Env := { P := Tryz.prog, fn := tbl [], own := [], key := 11100, nt := 12 }
theorem b111 : PureBody E111 [] Tryz.f111 distS := by
  refine pb ?_
  rintro ⟨a, b⟩ ⟨⟨h1, h2⟩, h3, h4⟩
  simp only at h1 h2 h3 h4
  have w1 : IntKind.wrap .i64 (a - b) = a - b := wrap_id (by omega) (by omega)
  have w2 : IntKind.wrap .i64 (b - a) = b - a := wrap_id (by omega) (by omega)
  simp -dsimp [Tryz.f111, E111, dist]
  repeat' (first | omega | (simp -dsimp [E111, ri, cellp, ints, w1, w2, dist]) | (refine Also.intro ?_ fun _ => ?_) | (refine Hold.intro fun _ => ?_) | (refine And.intro ?_ ?_))
theorem ok111 : FnOK Tryz.prog 111 (.pure distS) := pure_fn (E := E111) rfl LOK.nil (ok := []) (fn := Tryz.f111) (by kernel_rfl) (by kernel_rfl) (by kernel_rfl) (by kernel_rfl) rfl (fun _ _ => by simp) b111
end Go.Sx
end
section
/- Parts: turning points. No conditions. -/
set_option linter.unusedSimpArgs false
set_option maxRecDepth 100000
set_option maxHeartbeats 1000000
namespace Go.Sx
open Go.Proofs

def tpush (out : List Int) (n : Int) : List Int :=
  if 0 < out.length ∧ out.getD (out.length - 1) 0 = n then out
  else if 1 < out.length ∧ decide (out.getD (out.length - 2) 0 < out.getD (out.length - 1) 0) = decide (out.getD (out.length - 1) 0 < n) then out.set (out.length - 1) n
  else out ++ [n]
def turn (l : List Int) : List Int := l.foldl tpush []
theorem tpush_len (out : List Int) (n : Int) : (tpush out n).length ≤ out.length + 1 := by
  unfold tpush
  split
  · omega
  · split
    · simp
    · simp
theorem turn_take (l : List Int) {k : Nat} (hk : k < l.length) : turn (l.take (k + 1)) = tpush (turn (l.take k)) l[k] := by
  unfold turn
  rw [List.take_add_one, List.getElem?_eq_getElem hk, List.foldl_append]; rfl
theorem turn_len (l : List Int) : (turn l).length ≤ l.length := by
  have : ∀ k, (turn (l.take k)).length ≤ k := by
    intro k
    induction k with
    | zero => simp [turn]
    | succ k ih =>
      by_cases hk : k < l.length
      · rw [turn_take l hk]; have := tpush_len (turn (l.take k)) l[k]; omega
      · rw [List.take_of_length_le (by omega)]
        rw [List.take_of_length_le (by omega)] at ih; omega
  have := this l.length
  rwa [List.take_length] at this
abbrev turnS : PSpec := { dom := List Int, enc := fun d => [ints d], dec := fun l => (l.getD 0 .top).toInts, pre := fun d => d.length ≤ 1000000, res := fun d => ints (turn d) }
noncomputable abbrev E110 : Env := { P := Tryz.prog, fn := tbl [], own := [], key := 11000, nt := 61 }
theorem b110 : PureBody E110 [] Tryz.f110 turnS := by
  refine pb ?_
  rintro l hl
  simp -dsimp [Tryz.f110, E110, ints]
  repeat' (first | omega | (simp -dsimp [E110, ri, cellp, ints, hl]) | (refine Also.intro ?_ fun _ => ?_) | (refine Hold.intro fun _ => ?_) | (refine And.intro ?_ ?_))
  refine awp_loop_g [(2, 11017, 1, 3)] rfl (by simp) [9, 10, 11, 4, 12, 13, 5, 19, 20, 21, 22, 23, 24, 25, 26, 27, 28, 29, 18, 31, 32, 33, 34, 35, 36, 37, 38, 39, 40, 41, 42, 43, 44, 45, 46, 47, 48, 49, 50, 51, 52, 53, 30, 54, 55, 56, 57, 58, 14, 15, 16, 17, 2, 59, 8] (fun k : Fin (l.length + 1) => [(8, (true, .int .i64 (k.1 : Nat))), (2, (true, .bsl 11017 0 (turn (l.take k.1)).length))])
    (fun k => hps [(11017, { base := 0, blks := [{ z := 1, els := (turn (l.take k.1)).map ri, ty := 3 }] })] noH) (fun k => l.length - k.1) ⟨0, by omega⟩ ?_ ?_ ?_
  · simp [okAll, okv, turn]
  · exact (by (try simp -dsimp only [hpush_noH, hpush_hps, hps_over]); refine hle_hps ?_; simp -dsimp [allK, turn]; repeat' (first | (refine And.intro ?_ ?_) | (refine sLe.same ?_ ?_ <;> (simp; done)) | (refine sLe.clear ?_ ?_ <;> (first | (simp; done) | (simp; omega))) | (refine sLe.drop 1 ?_ ?_ ?_ <;> (simp; done))))
  rintro ⟨k, hk⟩
  simp only
  by_cases hk1 : k < l.length
  · have hki : (k : Int) < l.length := by omega
    have wk : IntKind.wrap .i64 ((k : Int) + 1) = (k + 1 : Nat) := wrap_id (by omega) (by omega)
    have hT := turn_take l hk1
    have hTl := turn_len (l.take k)
    rw [List.length_take] at hTl
    generalize hn : l[k] = n at *
    generalize turn (l.take k) = T at *
    generalize hm : T.length = m at *
    have hb8 : (m + 1) * 8 ≤ 140737488355328 := by omega
    rcases Nat.lt_or_ge 0 m with hm0 | hm0
    case inr =>
      have hm0 : m = 0 := by omega
      subst hm0
      have hTn : T = [] := List.eq_nil_of_length_eq_zero hm
      subst hTn
      rw [show tpush [] n = [n] by rfl] at hT
      simp -dsimp [hki]
      repeat' (first | omega | (simp -dsimp [E110, ri, cellp, ints, hki, hk1, wk, hn, hl]) | (refine Also.intro ?_ fun _ => ?_) | (refine Hold.intro fun _ => ?_) | (refine And.intro ?_ ?_))
      refine ⟨⟨k + 1, by omega⟩, tle_chain rfl ?_, (by (try simp -dsimp only [hpush_noH, hpush_hps, hps_over]); refine hle_hps ?_; simp -dsimp [allK, hT, ri]; repeat' (first | (refine And.intro ?_ ?_) | (refine sLe.same ?_ ?_ <;> (simp; done)) | (refine sLe.clear ?_ ?_ <;> (first | (simp; done) | (simp; omega))) | (refine sLe.drop 1 ?_ ?_ ?_ <;> (simp; done)))), by simp only; omega⟩
      simp [okAll, okv, hT]
    have h1 : m - 1 < T.length := by omega
    have e1 : T[m - 1]? = some T[m - 1] := List.getElem?_eq_getElem h1
    have g1 : T.getD (m - 1) 0 = T[m - 1] := by simp [List.getD, e1]
    have w1 : IntKind.wrap .i64 ((m : Int) - 1) = (m - 1 : Nat) := by rw [wrap_id (by omega) (by omega)]; omega
    have i1 : (0 : Int) < m := by omega
    rw [tpush, hm, g1] at hT
    generalize hx : T[m - 1] = x at *
    by_cases c1 : x = n
    · rw [if_pos ⟨hm0, c1⟩] at hT
      subst c1
      simp -dsimp [hki]
      repeat' (first | omega | (simp -dsimp [E110, ri, cellp, ints, hki, hk1, wk, hn, hl, w1, e1, i1, h1, hx]) | (refine Also.intro ?_ fun _ => ?_) | (refine Hold.intro fun _ => ?_) | (refine And.intro ?_ ?_))
      refine ⟨⟨k + 1, by omega⟩, tle_chain rfl ?_, (by (try simp -dsimp only [hpush_noH, hpush_hps, hps_over]); refine hle_hps ?_; simp -dsimp [allK, hT, ri]; repeat' (first | (refine And.intro ?_ ?_) | (refine sLe.same ?_ ?_ <;> (simp; done)) | (refine sLe.clear ?_ ?_ <;> (first | (simp; done) | (simp; omega))) | (refine sLe.drop 1 ?_ ?_ ?_ <;> (simp; done)))), by simp only; omega⟩
      simp [okAll, okv, hT, hm]
    have c1' : (x = n) = False := eq_false c1
    rw [if_neg (fun h => c1 h.2)] at hT
    rcases Nat.lt_or_ge 1 m with hm1 | hm1
    case inr =>
      have hm1 : m = 1 := by omega
      subst hm1
      rw [if_neg (fun h => by omega)] at hT
      simp -dsimp [hki]
      repeat' (first | omega | (simp -dsimp [E110, ri, cellp, ints, hki, hk1, wk, hn, hl, w1, e1, i1, h1, hx, c1', hm]) | (refine Also.intro ?_ fun _ => ?_) | (refine Hold.intro fun _ => ?_) | (refine And.intro ?_ ?_))
      refine ⟨⟨k + 1, by omega⟩, tle_chain rfl ?_, (by (try simp -dsimp only [hpush_noH, hpush_hps, hps_over]); refine hle_hps ?_; simp -dsimp [allK, hT, ri]; repeat' (first | (refine And.intro ?_ ?_) | (refine sLe.same ?_ ?_ <;> (simp; done)) | (refine sLe.clear ?_ ?_ <;> (first | (simp; done) | (simp; omega))) | (refine sLe.drop 1 ?_ ?_ ?_ <;> (simp; done)))), by simp only; omega⟩
      simp [okAll, okv, hT, hm]
    have h2 : m - 2 < T.length := by omega
    have e2 : T[m - 2]? = some T[m - 2] := List.getElem?_eq_getElem h2
    have g2 : T.getD (m - 2) 0 = T[m - 2] := by simp [List.getD, e2]
    have w2 : IntKind.wrap .i64 ((m : Int) - 2) = (m - 2 : Nat) := by rw [wrap_id (by omega) (by omega)]; omega
    have i2 : (1 : Int) < m := by omega
    rw [g2] at hT
    generalize hy : T[m - 2] = y at *
    have hset : (T.map ri).set (m - 1) [V.int .i64 n] = (T.set (m - 1) n).map ri := by rw [List.map_set]; rfl
    have hsl : (T.set (m - 1) n).length = m := by rw [List.length_set, hm]
    by_cases c2 : decide (y < x) = decide (x < n)
    · rw [if_pos ⟨hm1, c2⟩] at hT
      generalize T.set (m - 1) n = T2 at *
      simp -dsimp [hki]
      repeat' (first | omega | (simp -dsimp [E110, ri, cellp, ints, hki, hk1, wk, hn, hl, w1, w2, e1, e2, i1, i2, h1, h2, hx, hy, c1', c2, hm, hset]) | (refine Also.intro ?_ fun _ => ?_) | (refine Hold.intro fun _ => ?_) | (refine And.intro ?_ ?_))
      refine ⟨⟨k + 1, by omega⟩, tle_chain rfl ?_, (by (try simp -dsimp only [hpush_noH, hpush_hps, hps_over]); refine hle_hps ?_; simp -dsimp [allK, hT, hset]; repeat' (first | (refine And.intro ?_ ?_) | (refine sLe.same ?_ ?_ <;> (simp; done)) | (refine sLe.clear ?_ ?_ <;> (first | (simp; done) | (simp; omega))) | (refine sLe.drop 1 ?_ ?_ ?_ <;> (simp; done)))), by simp only; omega⟩
      simp [okAll, okv, hT, hsl]
    · rw [if_neg (fun h => c2 h.2)] at hT
      have c2' : (decide (y < x) = decide (x < n)) = False := eq_false c2
      simp -dsimp [hki]
      repeat' (first | omega | (simp -dsimp [E110, ri, cellp, ints, hki, hk1, wk, hn, hl, w1, w2, e1, e2, i1, i2, h1, h2, hx, hy, c1', c2', hm]) | (refine Also.intro ?_ fun _ => ?_) | (refine Hold.intro fun _ => ?_) | (refine And.intro ?_ ?_))
      refine ⟨⟨k + 1, by omega⟩, tle_chain rfl ?_, (by (try simp -dsimp only [hpush_noH, hpush_hps, hps_over]); refine hle_hps ?_; simp -dsimp [allK, hT, ri]; repeat' (first | (refine And.intro ?_ ?_) | (refine sLe.same ?_ ?_ <;> (simp; done)) | (refine sLe.clear ?_ ?_ <;> (first | (simp; done) | (simp; omega))) | (refine sLe.drop 1 ?_ ?_ ?_ <;> (simp; done)))), by simp only; omega⟩
      simp [okAll, okv, hT, hm]
  have hke : k = l.length := by omega
  subst hke
  rw [List.take_length]
  simp -dsimp
  repeat' (first | omega | (simp -dsimp [E110, ri, cellp, ints, ints]) | (refine Also.intro ?_ fun _ => ?_) | (refine Hold.intro fun _ => ?_) | (refine And.intro ?_ ?_))
theorem ok110 : FnOK Tryz.prog 110 (.pure turnS) := pure_fn (E := E110) rfl LOK.nil (ok := []) (fn := Tryz.f110) (by kernel_rfl) (by kernel_rfl) (by kernel_rfl) (by kernel_rfl) rfl (fun _ _ => by simp) b110
end Go.Sx
end
section
/- Parts: slices.Delete. No conditions. -/
set_option linter.unusedSimpArgs false
set_option maxRecDepth 100000
set_option maxHeartbeats 1000000
namespace Go.Sx
open Go.Proofs

/-- Delete of ints, of an owned slice: the slice goes on as a new block. -/
def delS : HSpec where
  go args h := match args with
    | [.bsl s i n, .int .i64 a, .int .i64 b] => match hget h s i with
      | some B => ⟨B.fz = false ∧ B.z = 1 ∧ n = B.els.length ∧ 0 ≤ a ∧ a < b ∧ b < n ∧ n ≤ 1000000 ∧ B.ty = 3 ∧ s ≠ 999999999, .bsl 11232 (hnext h 11232) (n - (b.toNat - a.toNat)), hpush (hcut h s i) 11232 { B with els := B.els.take a.toNat ++ B.els.drop b.toNat }⟩
      | none => ⟨False, .top, h⟩
    | _ => ⟨False, .top, h⟩
theorem del_inv {args : List V} {h : Hp} (hc : (delS.go args h).c) : ∃ s i n B a b, args = [.bsl s i n, .int .i64 (a : Nat), .int .i64 (b : Nat)] ∧ hget h s i = some B ∧ B.fz = false ∧ B.z = 1 ∧ n = B.els.length ∧ a < b ∧ b < n ∧ n ≤ 1000000 ∧ B.ty = 3 ∧
    (delS.go args h).v = .bsl 11232 (hnext h 11232) (n - (b - a)) ∧ (delS.go args h).h = hpush (hcut h s i) 11232 { B with els := B.els.take a ++ B.els.drop b } := by
  match args, hc with
  | [.bsl s i n, .int .i64 a, .int .i64 b], hc =>
    cases hB : hget h s i with
    | none => simp [delS, hB] at hc
    | some B =>
      have hgo : delS.go [.bsl s i n, .int .i64 a, .int .i64 b] h = ⟨B.fz = false ∧ B.z = 1 ∧ n = B.els.length ∧ 0 ≤ a ∧ a < b ∧ b < n ∧ n ≤ 1000000 ∧ B.ty = 3 ∧ s ≠ 999999999, .bsl 11232 (hnext h 11232) (n - (b.toNat - a.toNat)), hpush (hcut h s i) 11232 { B with els := B.els.take a.toNat ++ B.els.drop b.toNat }⟩ := by simp only [delS, hB]
      rw [hgo] at hc ⊢
      obtain ⟨c1, c2, c3, c4, c5, c6, c7, c8, c9⟩ := hc
      exact ⟨s, i, n, B, a.toNat, b.toNat, by rw [Int.toNat_of_nonneg c4, Int.toNat_of_nonneg (by omega)], hB, c1, c2, c3, by omega, by omega, c7, c8, rfl, rfl⟩
theorem hcut_hset {h : Hp} {s i : Nat} {B : Blk} (hb : (h s).base ≤ i) : hcut (hset h s i B) s i = hcut h s i := by
  funext k
  unfold hcut hset
  by_cases hk : k = s
  · subst hk
    simp only [if_true]
    have : List.drop (i + 1 - (h k).base) ((h k).blks.set (i - (h k).base) B) = List.drop (i + 1 - (h k).base) (h k).blks := by
      rw [List.drop_set_of_lt (by omega)]
    rw [this]
  · simp only [hk, if_false]
noncomputable abbrev E112 : Env := { P := Tryz.prog, fn := tbl [], own := [], key := 11200, nt := 33, frz := [(7, [1000000 + 11232000])] }
theorem b112 : HeapBody E112 [] Tryz.f112 delS := by
  intro args h hc
  obtain ⟨s, i, n, B, a, b, rfl, hB, c1, c2, c3, c4, c5, c6, c7, hv, hh⟩ := del_inv hc
  rw [hv, hh]
  clear hv hh hc
  obtain ⟨z, els, ty, fz, cl⟩ := B
  simp only at c1 c2 c3 c7
  subst c1 c2 c3 c7
  simp only at hB ⊢
  have hne : ¬ els = [] := by intro e; rw [e] at c5; simp at c5
  have hs1 : ∀ B', hget (hset h s i B') s i = some B' := fun B' => hget_set_same hB
  have hcs : ∀ B', hcut (hset h s i B') s i = hcut h s i := fun B' => hcut_hset (hget_base hB)
  have hns : ∀ B' k, hnext (hset h s i B') k = hnext h k := fun B' k => hnext_set ..
  have e1 : ((a : Int) + (els.length - b : Nat)).toNat = a + (els.length - b) := by omega
  have e2 : List.take (els.length - b) (List.drop b els) = List.drop b els := List.take_of_length_le (by simp)
  have e3 : ((a : Int) = b) = False := eq_false (by omega)
  have e4 : a < els.length := by omega
  have hab : a + (els.length - b) < els.length := by omega
  have hmin : min a els.length = a := by omega
  have e5 : ∀ X, List.take (a + (els.length - b)) (List.take a els ++ (List.drop b els ++ X)) = List.take a els ++ List.drop b els := fun X => by
    rw [← List.append_assoc, List.take_left' (by simp; omega)]
  simp -dsimp [Tryz.f112, E112]
  repeat' (first | omega | (simp -dsimp [E112, ri, cellp, ints, hB, e5, hne, hs1, e1, e2, e3, e4, c4, c5, c6, hab, hcs, hns, hset_hset, hmin]) | (refine Also.intro ?_ fun _ => ?_) | (refine Hold.intro fun _ => ?_) | (refine And.intro ?_ ?_))
theorem ok112 : FnOK Tryz.prog 112 (.heap delS) := heap_fn (E := E112) rfl LOK.nil (ok := []) (fn := Tryz.f112) (by kernel_rfl) (by kernel_rfl) (by kernel_rfl) (by kernel_rfl) rfl (fun args h hc => by obtain ⟨_, _, _, _, _, _, rfl, _⟩ := del_inv hc; simp) b112
end Go.Sx
end
section
/- Parts: the cycles of a series, in plain Lean. No conditions. -/
set_option linter.unusedSimpArgs false
namespace Go.Sx

/-- What is counted of a pile, and what is left of it. -/
def red (pile : List Int) : List (Int × Int) × List Int :=
  if h : 3 ≤ pile.length then
    if dist (pile.getD (pile.length - 1) 0) (pile.getD (pile.length - 2) 0) < dist (pile.getD (pile.length - 2) 0) (pile.getD (pile.length - 3) 0) then ([], pile)
    else if pile.length = 3 then
      let r := red (pile.drop 1)
      ((dist (pile.getD (pile.length - 2) 0) (pile.getD (pile.length - 3) 0), 1) :: r.1, r.2)
    else
      let r := red (pile.take (pile.length - 3) ++ pile.drop (pile.length - 1))
      ((dist (pile.getD (pile.length - 2) 0) (pile.getD (pile.length - 3) 0), 2) :: r.1, r.2)
  else ([], pile)
termination_by pile.length
decreasing_by
  · simp; omega
  · simp; omega
def tailC (pile : List Int) : List (Int × Int) := (List.range (pile.length - 1)).map fun i => (dist (pile.getD (i + 1) 0) (pile.getD i 0), 1)
def cyc : List Int → List Int → List (Int × Int)
  | [], pile => tailC pile
  | p :: r, pile => (red (pile ++ [p])).1 ++ cyc r (red (pile ++ [p])).2
def cycles (l : List Int) : List (Int × Int) := cyc (turn l) []
theorem red_small {pile : List Int} (h : pile.length < 3) : red pile = ([], pile) := by
  rw [red, dif_neg (by omega)]
theorem red_stop {pile : List Int} (h : 3 ≤ pile.length) (h1 : dist (pile.getD (pile.length - 1) 0) (pile.getD (pile.length - 2) 0) < dist (pile.getD (pile.length - 2) 0) (pile.getD (pile.length - 3) 0)) : red pile = ([], pile) := by
  rw [red, dif_pos h, if_pos h1]
theorem red_half {pile : List Int} (h : pile.length = 3) (h1 : ¬ dist (pile.getD (pile.length - 1) 0) (pile.getD (pile.length - 2) 0) < dist (pile.getD (pile.length - 2) 0) (pile.getD (pile.length - 3) 0)) :
    red pile = ((dist (pile.getD (pile.length - 2) 0) (pile.getD (pile.length - 3) 0), 1) :: (red (pile.drop 1)).1, (red (pile.drop 1)).2) := by
  rw [red, dif_pos (by omega), if_neg h1, if_pos h]
theorem red_whole {pile : List Int} (h : 3 < pile.length) (h1 : ¬ dist (pile.getD (pile.length - 1) 0) (pile.getD (pile.length - 2) 0) < dist (pile.getD (pile.length - 2) 0) (pile.getD (pile.length - 3) 0)) :
    red pile = ((dist (pile.getD (pile.length - 2) 0) (pile.getD (pile.length - 3) 0), 2) :: (red (pile.take (pile.length - 3) ++ pile.drop (pile.length - 1))).1, (red (pile.take (pile.length - 3) ++ pile.drop (pile.length - 1))).2) := by
  rw [red, dif_pos (by omega), if_neg h1, if_neg (by omega)]
/-- A pile's loads are among those that came. -/
def Bd (l : List Int) : Prop := ∀ x ∈ l, -1000000000000 ≤ x ∧ x ≤ 1000000000000
theorem Bd.getD {l : List Int} (h : Bd l) (i : Nat) : -1000000000000 ≤ l.getD i 0 ∧ l.getD i 0 ≤ 1000000000000 := by
  simp only [List.getD]
  cases hk : l[i]? with
  | none => simp
  | some x => exact h x (List.mem_of_getElem? hk)
theorem red_bd : ∀ (n : Nat) (pile : List Int), pile.length = n → Bd pile → Bd (red pile).2 ∧ (red pile).2.length ≤ pile.length := by
  intro n
  induction n using Nat.strongRecOn with
  | _ n ih =>
    intro pile hn hb
    by_cases h : 3 ≤ pile.length
    case neg => rw [red_small (by omega)]; exact ⟨hb, Nat.le_refl _⟩
    by_cases h1 : dist (pile.getD (pile.length - 1) 0) (pile.getD (pile.length - 2) 0) < dist (pile.getD (pile.length - 2) 0) (pile.getD (pile.length - 3) 0)
    · rw [red_stop h h1]; exact ⟨hb, Nat.le_refl _⟩
    by_cases h3 : pile.length = 3
    · rw [red_half h3 h1]
      obtain ⟨k1, k2⟩ := ih (pile.drop 1).length (by simp; omega) (pile.drop 1) rfl (fun x hx => hb x (List.mem_of_mem_drop hx))
      exact ⟨k1, by simp only [List.length_drop] at k2 ⊢; omega⟩
    · rw [red_whole (by omega) h1]
      obtain ⟨k1, k2⟩ := ih (pile.take (pile.length - 3) ++ pile.drop (pile.length - 1)).length (by simp; omega) _ rfl (fun x hx => by
        rcases List.mem_append.1 hx with hx | hx
        · exact hb x (List.mem_of_mem_take hx)
        · exact hb x (List.mem_of_mem_drop hx))
      exact ⟨k1, by simp only [List.length_append, List.length_take, List.length_drop] at k2 ⊢; omega⟩
theorem tpush_bd {out : List Int} {n : Int} (h : Bd out) (hn : -1000000000000 ≤ n ∧ n ≤ 1000000000000) : Bd (tpush out n) := by
  unfold tpush
  split
  · exact h
  · split
    · intro x hx
      rcases List.mem_or_eq_of_mem_set hx with hx | rfl
      · exact h x hx
      · exact hn
    · intro x hx
      rcases List.mem_append.1 hx with hx | hx
      · exact h x hx
      · simp at hx; subst hx; exact hn
theorem turn_bd {l : List Int} (h : Bd l) : Bd (turn l) := by
  have : ∀ k, Bd (turn (l.take k)) := by
    intro k
    induction k with
    | zero => intro x hx; simp [turn] at hx
    | succ k ih =>
      by_cases hk : k < l.length
      · rw [turn_take l hk]; exact tpush_bd ih (h _ (List.getElem_mem hk))
      · rw [List.take_of_length_le (by omega)]
        rw [List.take_of_length_le (by omega)] at ih; exact ih
  have := this l.length
  rwa [List.take_length] at this
theorem dist_bd {a b : Int} (ha : -1000000000000 ≤ a ∧ a ≤ 1000000000000) (hb : -1000000000000 ≤ b ∧ b ≤ 1000000000000) : 0 ≤ dist a b ∧ dist a b ≤ 2000000000000 := by
  unfold dist; omega
theorem red_len : ∀ (n : Nat) (pile : List Int), pile.length = n → (red pile).1.length + (red pile).2.length ≤ pile.length := by
  intro n
  induction n using Nat.strongRecOn with
  | _ n ih =>
    intro pile hn
    by_cases h : 3 ≤ pile.length
    case neg => rw [red_small (by omega)]; simp
    by_cases h1 : dist (pile.getD (pile.length - 1) 0) (pile.getD (pile.length - 2) 0) < dist (pile.getD (pile.length - 2) 0) (pile.getD (pile.length - 3) 0)
    · rw [red_stop h h1]; simp
    by_cases h3 : pile.length = 3
    · rw [red_half h3 h1]
      have := ih (pile.drop 1).length (by simp; omega) (pile.drop 1) rfl
      simp only [List.length_drop, List.length_cons] at this ⊢; omega
    · rw [red_whole (by omega) h1]
      have := ih (pile.take (pile.length - 3) ++ pile.drop (pile.length - 1)).length (by simp; omega) _ rfl
      simp only [List.length_append, List.length_take, List.length_drop, List.length_cons] at this ⊢; omega
theorem cyc_len : ∀ (pts pile : List Int), (cyc pts pile).length ≤ pts.length + pile.length
  | [], pile => by simp [cyc, tailC]
  | p :: r, pile => by
    have h1 := red_len _ (pile ++ [p]) rfl
    have h2 := cyc_len r (red (pile ++ [p])).2
    simp only [cyc, List.length_append, List.length_cons, List.length_nil] at *
    omega
theorem cycles_len (l : List Int) : (cycles l).length ≤ l.length := by
  have h1 := cyc_len (turn l) []
  have h2 := turn_len l
  simp only [cycles, List.length_nil] at *
  omega
/-- A cycle as what is yielded. -/
def cycV (p : Int × Int) : List V := [.int .i64 p.1, .int .i64 p.2]
/-- The captured series. -/
def cntDec (caps : List V) (h : Hp) : Prop × List (List V) := match caps with
  | [.bptr s i n e j] => match hget h s i with
    | some B => ((s = 6401 ∧ n = 1 ∧ e = 0 ∧ j = 0) ∧ B.z = 1 ∧ ∃ l : List Int, B.els = [[ints l]] ∧ l.length ≤ 100000 ∧ Bd l, (cycles ((B.els.getD 0 []).getD 0 .top).toInts).map cycV)
    | none => (False, [])
  | _ => (False, [])
theorem cntDec_inv {caps : List V} {h : Hp} (hc : (cntDec caps h).1) : ∃ i B, ∃ L : List Int, caps = [.bptr 6401 i 1 0 0] ∧ hget h 6401 i = some B ∧ B.z = 1 ∧ B.els = [[ints L]] ∧ L.length ≤ 100000 ∧ Bd L ∧ (cntDec caps h).2 = (cycles L).map cycV := by
  match caps, hc with
  | [.bptr s i n e j], hc =>
    cases hB : hget h s i with
    | none => simp only [cntDec, hB] at hc
    | some B =>
      simp only [cntDec, hB] at hc
      obtain ⟨⟨rfl, rfl, rfl, rfl⟩, hz, L, hL, h6, h7⟩ := hc
      refine ⟨i, B, L, rfl, hB, hz, hL, h6, h7, ?_⟩
      simp only [cntDec, hB, hL]
      simp [ints]
end Go.Sx
end
section
/- Parts: the iterator over cycles. No conditions. -/
set_option linter.unusedSimpArgs false
set_option maxRecDepth 100000
set_option maxHeartbeats 1000000
namespace Go.Sx
open Go.Proofs

def cntS : Nat → HSpec → HSpec := itS [10920, 10959, 11232] [6401] cntDec
theorem cnt_inv {l : Nat} {Y : HSpec} {args : List V} {h : Hp} (hc : ((cntS l Y).go args h).c) : ∃ i B L, args = [.yld l, .bptr 6401 i 1 0 0] ∧ Loc Y [10920, 10959, 11232] [6401] ∧ (∀ k ∈ [10920, 10959, 11232], h k = { base := (h k).base, blks := [] }) ∧ hget h 6401 i = some B ∧ B.z = 1 ∧ B.els = [[ints L]] ∧ L.length ≤ 100000 ∧ Bd L ∧
    (feed Y ((cycles L).map cycV) h).1 ∧ ((cntS l Y).go args h).v = .tup [] ∧ ((cntS l Y).go args h).h = hps ([10920, 10959, 11232].map fun k => (k, { base := (h k).base + 1000000, blks := [] })) (feed Y ((cycles L).map cycV) h).2 := by
  obtain ⟨caps, rfl, h2, h3, h4, h5, h6, h7⟩ := its_inv hc
  obtain ⟨i, B, L, rfl, k1, k2, k3, k4, k5, k6⟩ := cntDec_inv h4
  rw [k6] at h5 h7
  exact ⟨i, B, L, rfl, h2, h3, k1, k2, k3, k4, k5, h5, h6, h7⟩
theorem del_go {h : Hp} {s i n a b : Nat} {B : Blk} (hB : hget h s i = some B) (c1 : B.fz = false) (c2 : B.z = 1) (c3 : n = B.els.length) (c4 : a < b) (c5 : b < n) (c6 : n ≤ 1000000) (c7 : B.ty = 3) (c8 : s ≠ 999999999) :
    delS.go [.bsl s i n, .int .i64 (a : Nat), .int .i64 (b : Nat)] h = ⟨True, .bsl 11232 (hnext h 11232) (n - (b - a)), hpush (hcut h s i) 11232 { B with els := B.els.take a ++ B.els.drop b }⟩ := by
  have hgo : delS.go [.bsl s i n, .int .i64 (a : Nat), .int .i64 (b : Nat)] h = ⟨B.fz = false ∧ B.z = 1 ∧ n = B.els.length ∧ (0 : Int) ≤ a ∧ (a : Int) < b ∧ (b : Int) < n ∧ n ≤ 1000000 ∧ B.ty = 3 ∧ s ≠ 999999999, .bsl 11232 (hnext h 11232) (n - ((b : Int).toNat - (a : Int).toNat)), hpush (hcut h s i) 11232 { B with els := B.els.take (a : Int).toNat ++ B.els.drop (b : Int).toNat }⟩ := by simp only [delS, hB]
  rw [hgo]
  simp only [Int.toNat_natCast]
  congr 1
  exact eq_true ⟨c1, c2, c3, by omega, by omega, by omega, c6, c7, c8⟩
theorem del_ys {args : List V} {h : Hp} (hc : (delS.go args h).c) (hy : (h YS).blks = []) : (delS.go args h).h YS = h YS := by
  obtain ⟨s, i, n, B, a, b, _, hB, _, _, _, _, _, _, _, _, hh⟩ := del_inv hc
  rw [hh]
  exact (hpush_ys _ (by decide) _).trans (hcut_ys hy hB)
theorem kp81 : ∀ f S, tbl [(110, .pure turnS), (111, .pure distS), (112, .heap delS)] f = some (.heap S) → ∀ args h, (S.go args h).c → (h YS).blks = [] → (S.go args h).h YS = h YS := by
  intro f S hf args h hc hy
  simp only [tbl_cons, tbl_nil] at hf
  split at hf
  · cases hf
  · split at hf
    · cases hf
    · split at hf
      · cases hf; exact del_ys hc hy
      · cases hf
/-- Between two points. -/
structure CntO (Y : HSpec) (FH : Hp) (P : List Int) (b1 b2 b3 : Nat) where
  k : Nat
  pile : List Int
  H : Hp
  b : Nat
  c : Nat
  d : Nat
  hk : k ≤ P.length
  hl : pile.length ≤ k
  hp : Bd pile
  hf : (feed Y ((cyc (P.drop k) pile).map cycV) H).1 ∧ (feed Y ((cyc (P.drop k) pile).map cycV) H).2 = FH
  hb : b + pile.length ≤ b1 + k ∧ c + pile.length ≤ b2 + k ∧ d + pile.length ≤ b3 + k
/-- Between two cycles. -/
structure CntI (Y : HSpec) (FH : Hp) (P : List Int) (b1 b2 b3 k : Nat) where
  pile : List Int
  H : Hp
  b : Nat
  c : Nat
  d : Nat
  hl : pile.length ≤ k + 1
  hp : Bd pile
  hf : (feed Y (((red pile).1 ++ cyc (P.drop (k + 1)) (red pile).2).map cycV) H).1 ∧ (feed Y (((red pile).1 ++ cyc (P.drop (k + 1)) (red pile).2).map cycV) H).2 = FH
  hb : b + pile.length ≤ b1 + (k + 1) ∧ c + pile.length ≤ b2 + (k + 1) ∧ d + pile.length ≤ b3 + (k + 1)
/-- Behind the points. -/
structure CntT (Y : HSpec) (FH : Hp) (pile : List Int) where
  i : Nat
  H : Hp
  hi : i ≤ pile.length
  hf : (feed Y (((tailC pile).drop (i - 1)).map cycV) H).1 ∧ (feed Y (((tailC pile).drop (i - 1)).map cycV) H).2 = FH
theorem tailC_drop {pile : List Int} {i : Nat} (h : i + 1 < pile.length) : (tailC pile).drop i = (dist (pile.getD (i + 1) 0) (pile.getD i 0), 1) :: (tailC pile).drop (i + 1) := by
  have hl : i < (tailC pile).length := by simp [tailC]; omega
  rw [List.drop_eq_getElem_cons hl]
  simp [tailC]
noncomputable abbrev E109 : Env := { P := Tryz.prog, fn := tbl [(110, .pure turnS), (111, .pure distS), (112, .heap delS)], own := [59], key := 10900, nt := 94, frz := [(7, [1000000 + 10920003])] }
theorem b109 : IterBody E109 [] Tryz.f109 cntS := by
  intro l Y args h hc hyb hyf
  obtain ⟨i, B, L, rfl, hloc, hfr, hB, hz, hL, hL1, hL2, hfd, hv, hh⟩ := cnt_inv hc
  rw [hv, hh]
  clear hv hh hc
  obtain ⟨z, els, ty, fz, cl⟩ := B
  simp only at hz hL
  subst hz hL
  have f1 := hfr 10920 (by simp)
  have f2 := hfr 10959 (by simp)
  have f3 := hfr 11232 (by simp)
  obtain ⟨FH, hFH⟩ : ∃ FH, (feed Y ((cycles L).map cycV) h).2 = FH := ⟨_, rfl⟩
  rw [hFH]
  simp only [List.map_cons, List.map_nil]
  generalize hb1 : (h 10920).base = b1 at *
  generalize hb2 : (h 10959).base = b2 at *
  generalize hb3 : (h 11232).base = b3 at *
  have hself : hps [(10920, { base := b1, blks := [] }), (10959, { base := b2, blks := [] }), (11232, { base := b3, blks := [] })] h = h := hps_self (by
    intro k hk
    simp at hk
    rcases hk with rfl | rfl | rfl
    · rw [f1]; rfl
    · rw [f2]; rfl
    · rw [f3]; rfl)
  have hB0 : ¬ i < (h 6401).base ∧ (h 6401).blks[i - (h 6401).base]? = some { z := 1, els := [[ints L]], ty := ty, fz := fz, cl := cl } := by
    unfold hget at hB
    split at hB
    · cases hB
    · exact ⟨by assumption, hB⟩
  obtain ⟨hB1, hB2⟩ := hB0
  have hTb := turn_bd hL2
  have hTl := turn_len L
  have hL3 : L.length ≤ 1000000 := by omega
  rw [← hself]
  simp -dsimp [Tryz.f109, E109]
  repeat' (first | omega | (simp -dsimp [E109, ri, cellp, ints, hB1, hB2, hL3, ints]) | (refine Also.intro ?_ fun _ => ?_) | (refine Hold.intro fun _ => ?_) | (refine And.intro ?_ ?_))
  have hcyc : cycles L = cyc (turn L) [] := rfl
  rw [hcyc] at hfd hFH
  generalize turn L = P at *
  clear hB hB1 hB2 hself f1 f2 f3 hb1 hb2 hb3 hfr
  refine awp_loop_g [(3, 10920, 1, 3)] rfl (by simp) [14, 15, 16, 5, 17, 18, 19, 20, 3, 21, 22, 6, 23, 24, 27, 28, 29, 30, 31, 32, 33, 34, 35, 36, 37, 38, 39, 40, 41, 42, 43, 44, 45, 46, 47, 48, 7, 8, 49, 50, 51, 52, 53, 54, 55, 56, 57, 58, 59, 60, 61, 62, 63, 64, 65, 66, 67, 68, 69, 25, 26, 70, 13] (fun q : CntO Y FH P b1 b2 b3 => [(13, (true, .int .i64 (q.k : Nat))), (3, (true, .bsl 10920 q.b q.pile.length))])
    (fun q => hps [(10920, { base := q.b, blks := [{ z := 1, els := q.pile.map ri, ty := 3 }] }), (10959, { base := q.c, blks := [] }), (11232, { base := q.d, blks := [] })] q.H) (fun q => P.length - q.k) { k := 0, pile := [], H := h, b := b1, c := b2, d := b3, hk := by simp, hl := by simp, hp := by intro x hx; simp at hx, hf := ⟨hfd, hFH⟩, hb := by simp } ?_ ?_ ?_
  · simp [okAll, okv]
  · exact (by (try simp -dsimp only [hpush_noH, hpush_hps, hps_over]); refine hle_hpsb ?_; simp -dsimp [allK, ]; repeat' (first | (refine And.intro ?_ ?_) | (refine sLe.same ?_ ?_ <;> (simp; done)) | (refine sLe.clear ?_ ?_ <;> (first | (simp; done) | (simp; omega))) | (refine sLe.drop 1 ?_ ?_ ?_ <;> (simp; done))))
  clear hfd hFH
  rintro ⟨k, pile, H, b, c, d, hk, hpl, hpb, ⟨hfd, hFH⟩, hbb, hcc, hdd⟩
  simp only
  by_cases hk1 : k < P.length
  · have hki : (k : Int) < P.length := by omega
    have wk : IntKind.wrap .i64 ((k : Int) + 1) = (k + 1 : Nat) := wrap_id (by omega) (by omega)
    have hdr : P.drop k = P[k] :: P.drop (k + 1) := List.drop_eq_getElem_cons hk1
    rw [hdr, cyc] at hfd hFH
    have hpk := hTb _ (List.getElem_mem hk1)
    have hb8 : (pile.length + 1) * 8 ≤ 140737488355328 := by omega
    simp -dsimp [hki]
    repeat' (first | omega | (simp -dsimp [E109, ri, cellp, ints, hki, hk1, hb8]) | (refine Also.intro ?_ fun _ => ?_) | (refine Hold.intro fun _ => ?_) | (refine And.intro ?_ ?_))
    have hpl1 : (pile ++ [P[k]]).length = pile.length + 1 := by simp
    have hmap1 : (pile ++ [P[k]]).map ri = pile.map ri ++ [[V.int .i64 P[k]]] := by simp [ri]
    have hpb1 : Bd (pile ++ [P[k]]) := fun x hx => by
      rcases List.mem_append.1 hx with hx | hx
      · exact hpb x hx
      · simp at hx; subst hx; exact hpk
    rw [← hmap1]
    generalize hU0 : pile ++ [P[k]] = U0 at *
    refine awp_loop [23, 24, 27, 28, 29, 30, 31, 32, 33, 34, 35, 36, 37, 38, 39, 40, 41, 42, 43, 44, 45, 46, 47, 48, 7, 8, 49, 50, 51, 52, 53, 54, 55, 56, 57, 58, 59, 3, 60, 61, 62, 63, 64, 65, 66, 67, 68, 69, 25, 26, 6] (fun q : CntI Y FH P b1 b2 b3 k => [(6, (true, .int .i64 (q.pile.length : Nat))), (3, (true, .bsl 10920 q.b q.pile.length))])
      (fun q => hps [(10920, { base := q.b, blks := [{ z := 1, els := q.pile.map ri, ty := 3 }] }), (10959, { base := q.c, blks := [] }), (11232, { base := q.d, blks := [] })] q.H) (fun q => q.pile.length) { pile := U0, H := H, b := b, c := c, d := d, hl := by omega, hp := hpb1, hf := ⟨hfd, hFH⟩, hb := by omega } ?_ ?_ ?_
    · simp [okAll, okv, hpl1]
    · exact (by (try simp -dsimp only [hpush_noH, hpush_hps, hps_over]); refine hle_hpsb ?_; simp -dsimp [allK, ]; repeat' (first | (refine And.intro ?_ ?_) | (refine sLe.same ?_ ?_ <;> (simp; done)) | (refine sLe.clear ?_ ?_ <;> (first | (simp; done) | (simp; omega))) | (refine sLe.drop 1 ?_ ?_ ?_ <;> (simp; done))))
    clear hfd hFH hpb1 hmap1 hpl1 hU0
    rintro ⟨U, H, b, c, d, hUl, hUb, ⟨hfd, hFH⟩, hbb, hcc, hdd⟩
    simp only
    generalize hm : U.length = m at *
    by_cases h3 : 3 ≤ m
    case neg =>
      rw [red_small (by omega)] at hfd hFH
      have h3' : ((3 : Int) ≤ m) = False := eq_false (by omega)
      simp -dsimp [h3']
      repeat' (first | omega | (simp -dsimp [E109, ri, cellp, ints, h3', wk]) | (refine Also.intro ?_ fun _ => ?_) | (refine Hold.intro fun _ => ?_) | (refine And.intro ?_ ?_))
      refine ⟨{ k := k + 1, pile := U, H := H, b := b, c := c, d := d, hk := by omega, hl := by omega, hp := hUb, hf := ⟨hfd, hFH⟩, hb := by omega }, tle_kept (kept_upds rfl (kept_forget rfl (kept_upds rfl kept_base))) ?_, (by (try simp -dsimp only [hpush_noH, hpush_hps, hps_over]); refine hle_hpsb ?_; simp -dsimp [allK, ]; repeat' (first | (refine And.intro ?_ ?_) | (refine sLe.same ?_ ?_ <;> (simp; done)) | (refine sLe.clear ?_ ?_ <;> (first | (simp; done) | (simp; omega))) | (refine sLe.drop 1 ?_ ?_ ?_ <;> (simp; done)))), by simp only; omega⟩
      simp [okAll, okv, hm]
    have h3' : (3 : Int) ≤ m := by omega
    have l1 : m - 1 < U.length := by omega
    have l2 : m - 2 < U.length := by omega
    have l3 : m - 3 < U.length := by omega
    have e1 : U[m - 1]? = some U[m - 1] := List.getElem?_eq_getElem l1
    have e2 : U[m - 2]? = some U[m - 2] := List.getElem?_eq_getElem l2
    have e3 : U[m - 3]? = some U[m - 3] := List.getElem?_eq_getElem l3
    have g1 : U.getD (m - 1) 0 = U[m - 1] := by simp [List.getD, e1]
    have g2 : U.getD (m - 2) 0 = U[m - 2] := by simp [List.getD, e2]
    have g3 : U.getD (m - 3) 0 = U[m - 3] := by simp [List.getD, e3]
    have d1 := hUb _ (List.getElem_mem l1)
    have d2 := hUb _ (List.getElem_mem l2)
    have d3 := hUb _ (List.getElem_mem l3)
    have w1 : IntKind.wrap .i64 ((m : Int) - 1) = (m - 1 : Nat) := by rw [wrap_id (by omega) (by omega)]; omega
    have w2 : IntKind.wrap .i64 ((m : Int) - 2) = (m - 2 : Nat) := by rw [wrap_id (by omega) (by omega)]; omega
    have w3 : IntKind.wrap .i64 ((m : Int) - 3) = (m - 3 : Nat) := by rw [wrap_id (by omega) (by omega)]; omega
    have rs := red_stop (pile := U) (by omega)
    have rh := red_half (pile := U)
    have rw' := red_whole (pile := U)
    rw [hm, g1, g2, g3] at rs rh rw'
    generalize hu1 : U[m - 1] = u1 at *
    generalize hu2 : U[m - 2] = u2 at *
    generalize hu3 : U[m - 3] = u3 at *
    have dd1 : ((-4000000000000 : Int) ≤ u1 ∧ u1 ≤ 4000000000000) := by omega
    have dd2 : ((-4000000000000 : Int) ≤ u2 ∧ u2 ≤ 4000000000000) := by omega
    have dd3 : ((-4000000000000 : Int) ≤ u3 ∧ u3 ≤ 4000000000000) := by omega
    generalize hx : dist u1 u2 = x at *
    generalize hy : dist u2 u3 = y at *
    by_cases hxy : x < y
    · rw [rs hxy] at hfd hFH
      have hxy' : (x < y) = True := eq_true hxy
      simp -dsimp [h3']
      repeat' (first | omega | (simp -dsimp [E109, ri, cellp, ints, h3', wk, hm, l1, l2, l3, e1, e2, e3, hu1, hu2, hu3, w1, w2, w3, dd1, dd2, dd3, hx, hy, hxy']) | (refine Also.intro ?_ fun _ => ?_) | (refine Hold.intro fun _ => ?_) | (refine And.intro ?_ ?_))
      refine ⟨{ k := k + 1, pile := U, H := H, b := b, c := c, d := d, hk := by omega, hl := by omega, hp := hUb, hf := ⟨hfd, hFH⟩, hb := by omega }, tle_kept (kept_upds rfl (kept_forget rfl (kept_upds rfl kept_base))) ?_, (by (try simp -dsimp only [hpush_noH, hpush_hps, hps_over]); refine hle_hpsb ?_; simp -dsimp [allK, ]; repeat' (first | (refine And.intro ?_ ?_) | (refine sLe.same ?_ ?_ <;> (simp; done)) | (refine sLe.clear ?_ ?_ <;> (first | (simp; done) | (simp; omega))) | (refine sLe.drop 1 ?_ ?_ ?_ <;> (simp; done)))), by simp only; omega⟩
      simp [okAll, okv, hm]
    have hxy' : (x < y) = False := eq_false hxy
    by_cases hm3 : m = 3
    · rw [rh hm3 hxy] at hfd hFH
      simp only [List.cons_append, List.map_cons, cycV] at hfd hFH
      obtain ⟨hc, bb, hv, ht, hf⟩ := feed_step hfd
      have hgo : ∀ S1 S2 S3, Y.go [.int .i64 y, .int .i64 1] (hps [(10920, S1), (10959, S2), (11232, S3)] H) = ⟨True, .bool bb, hps [(10920, S1), (10959, S2), (11232, S3)] (Y.go [.int .i64 y, .int .i64 1] H).h⟩ := fun S1 S2 S3 => hloc.go hc hv [(10920, S1), (10959, S2), (11232, S3)]
      cases bb with
      | false =>
        rw [hf rfl] at hFH
        generalize (Y.go [.int .i64 y, .int .i64 1] H).h = H' at *
        subst hFH
        have hm3i : ((m : Int) = 3) = True := eq_true (by omega)
        have hle : HLe (hps [(10920, { base := b, blks := [{ z := 1, els := U.map ri, ty := 3 }] }), (10959, { base := c, blks := [] }), (11232, { base := d, blks := [] })] H') (hps [(10920, { base := b1 + 1000000, blks := [] }), (10959, { base := b2 + 1000000, blks := [] }), (11232, { base := b3 + 1000000, blks := [] })] H') := (by (try simp -dsimp only [hpush_noH, hpush_hps, hps_over]); refine hle_hpsb ?_; simp -dsimp [allK, ]; repeat' (first | (refine And.intro ?_ ?_) | (refine sLe.same ?_ ?_ <;> (simp; done)) | (refine sLe.clear ?_ ?_ <;> (first | (simp; done) | (simp; omega))) | (refine sLe.drop 1 ?_ ?_ ?_ <;> (simp; done))))
        simp -dsimp [h3']
        repeat' (first | omega | (simp -dsimp [E109, ri, cellp, ints, h3', wk, hm, l1, l2, l3, e1, e2, e3, hu1, hu2, hu3, w1, w2, w3, dd1, dd2, dd3, hx, hy, hxy', hgo, hm3i, hle]) | (refine Also.intro ?_ fun _ => ?_) | (refine Hold.intro fun _ => ?_) | (refine And.intro ?_ ?_))
      | true =>
        obtain ⟨hf1, hf2⟩ := ht rfl
        rw [hf2] at hFH
        generalize (Y.go [.int .i64 y, .int .i64 1] H).h = H' at *
        have hm3i : ((m : Int) = 3) = True := eq_true (by omega)
        have hne : ¬ (U.map ri).tail = [] := by
          intro e
          have := congrArg List.length e
          simp at this; omega
        have htl : (U.drop 1).map ri = (U.map ri).tail := by simp
        have hta : List.take (m - 1) (U.map ri).tail = (U.map ri).tail := List.take_of_length_le (by simp; omega)
        simp -dsimp [h3']
        repeat' (first | omega | (simp -dsimp [E109, ri, cellp, ints, h3', wk, hm, l1, l2, l3, e1, e2, e3, hu1, hu2, hu3, w1, w2, w3, dd1, dd2, dd3, hx, hy, hxy', hgo, hm3i, hne, hta]) | (refine Also.intro ?_ fun _ => ?_) | (refine Hold.intro fun _ => ?_) | (refine And.intro ?_ ?_))
        refine ⟨{ pile := U.drop 1, H := H', b := b + 1, c := c + 1, d := d, hl := by rw [List.length_drop]; omega, hp := fun z hz => hUb z (List.mem_of_mem_drop hz), hf := ⟨hf1, hFH⟩, hb := by rw [List.length_drop]; omega }, tle_chain rfl ?_, (by (try simp -dsimp only [hpush_noH, hpush_hps, hps_over]); refine hle_hpsb ?_; simp -dsimp [allK, htl, hta]; repeat' (first | (refine And.intro ?_ ?_) | (refine sLe.same ?_ ?_ <;> (simp; done)) | (refine sLe.clear ?_ ?_ <;> (first | (simp; done) | (simp; omega))) | (refine sLe.drop 1 ?_ ?_ ?_ <;> (simp; done)))), by simp only [List.length_drop]; omega⟩
        simp [okAll, okv, hm]
    · rw [rw' (by omega) hxy] at hfd hFH
      simp only [List.cons_append, List.map_cons, cycV] at hfd hFH
      obtain ⟨hc, bb, hv, ht, hf⟩ := feed_step hfd
      have hgo : ∀ S1 S2 S3, Y.go [.int .i64 y, .int .i64 2] (hps [(10920, S1), (10959, S2), (11232, S3)] H) = ⟨True, .bool bb, hps [(10920, S1), (10959, S2), (11232, S3)] (Y.go [.int .i64 y, .int .i64 2] H).h⟩ := fun S1 S2 S3 => hloc.go hc hv [(10920, S1), (10959, S2), (11232, S3)]
      have hm3i : ((m : Int) = 3) = False := eq_false (by omega)
      cases bb with
      | false =>
        rw [hf rfl] at hFH
        generalize (Y.go [.int .i64 y, .int .i64 2] H).h = H' at *
        subst hFH
        have hle : HLe (hps [(10920, { base := b, blks := [{ z := 1, els := U.map ri, ty := 3 }] }), (10959, { base := c, blks := [] }), (11232, { base := d, blks := [] })] H') (hps [(10920, { base := b1 + 1000000, blks := [] }), (10959, { base := b2 + 1000000, blks := [] }), (11232, { base := b3 + 1000000, blks := [] })] H') := (by (try simp -dsimp only [hpush_noH, hpush_hps, hps_over]); refine hle_hpsb ?_; simp -dsimp [allK, ]; repeat' (first | (refine And.intro ?_ ?_) | (refine sLe.same ?_ ?_ <;> (simp; done)) | (refine sLe.clear ?_ ?_ <;> (first | (simp; done) | (simp; omega))) | (refine sLe.drop 1 ?_ ?_ ?_ <;> (simp; done))))
        simp -dsimp [h3']
        repeat' (first | omega | (simp -dsimp [E109, ri, cellp, ints, h3', wk, hm, l1, l2, l3, e1, e2, e3, hu1, hu2, hu3, w1, w2, w3, dd1, dd2, dd3, hx, hy, hxy', hgo, hm3i, hle]) | (refine Also.intro ?_ fun _ => ?_) | (refine Hold.intro fun _ => ?_) | (refine And.intro ?_ ?_))
      | true =>
        obtain ⟨hf1, hf2⟩ := ht rfl
        rw [hf2] at hFH
        generalize (Y.go [.int .i64 y, .int .i64 2] H).h = H' at *
        have hdel := del_go (h := hps [(10920, { base := b, blks := [{ z := 1, els := U.map ri, ty := 3 }] }), (10959, { base := c, blks := [] }), (11232, { base := d, blks := [] })] H') (s := 10920) (i := b) (n := m) (a := m - 3) (b := m - 1) (B := { z := 1, els := U.map ri, ty := 3 }) (by simp [hget_hps, hps_cons]) rfl rfl (by simp [hm]) (by omega) (by omega) (by omega) rfl (by decide)
        have hmp : List.take (m - 3) (U.map ri) ++ List.drop (m - 1) (U.map ri) = (U.take (m - 3) ++ U.drop (m - 1)).map ri := by simp
        have hms : m - ((m - 1) - (m - 3)) = (U.take (m - 3) ++ U.drop (m - 1)).length := by simp; omega
        simp only [hmp, hms] at hdel
        have hVl : (U.take (m - 3) ++ U.drop (m - 1)).length + 2 = m := by simp; omega
        have hVb : Bd (U.take (m - 3) ++ U.drop (m - 1)) := fun z hz => by
          rcases List.mem_append.1 hz with hz | hz
          · exact hUb z (List.mem_of_mem_take hz)
          · exact hUb z (List.mem_of_mem_drop hz)
        generalize hV : U.take (m - 3) ++ U.drop (m - 1) = V' at *
        have hne : ¬ V' = [] := by intro e; rw [e] at hVl; simp at hVl; omega
        simp -dsimp [h3']
        repeat' (first | omega | (simp -dsimp [E109, ri, cellp, ints, h3', wk, hm, l1, l2, l3, e1, e2, e3, hu1, hu2, hu3, w1, w2, w3, dd1, dd2, dd3, hx, hy, hxy', hgo, hm3i, hdel, hne]) | (refine Also.intro ?_ fun _ => ?_) | (refine Hold.intro fun _ => ?_) | (refine And.intro ?_ ?_))
        refine ⟨{ pile := V', H := H', b := b + 1, c := c, d := d + 1, hl := by omega, hp := hVb, hf := ⟨hf1, hFH⟩, hb := by omega }, tle_chain rfl ?_, (by (try simp -dsimp only [hpush_noH, hpush_hps, hps_over]); refine hle_hpsb ?_; simp -dsimp [allK, ]; repeat' (first | (refine And.intro ?_ ?_) | (refine sLe.same ?_ ?_ <;> (simp; done)) | (refine sLe.clear ?_ ?_ <;> (first | (simp; done) | (simp; omega))) | (refine sLe.drop 1 ?_ ?_ ?_ <;> (simp; done)))), by simp only; omega⟩
        simp [okAll, okv]
  have hke : k = P.length := by omega
  subst hke
  rw [List.drop_length, cyc] at hfd hFH
  generalize hm : pile.length = m at *
  have hkn : ¬ (P.length : Int) < P.length := by omega
  simp -dsimp [hkn]
  repeat' (first | omega | (simp -dsimp [E109, ri, cellp, ints, hkn, hm]) | (refine Also.intro ?_ fun _ => ?_) | (refine Hold.intro fun _ => ?_) | (refine And.intro ?_ ?_))
  refine awp_loop [74, 75, 9, 76, 77, 78, 79, 80, 81, 82, 83, 84, 85, 86, 87, 88, 89, 90, 91, 92, 93, 73] (fun q : CntT Y FH pile => [(73, (true, .int .i64 (q.i : Nat)))])
    (fun q => hps [(10920, { base := b, blks := [{ z := 1, els := pile.map ri, ty := 3 }] }), (10959, { base := c, blks := [] }), (11232, { base := d, blks := [] })] q.H) (fun q => pile.length - q.i) { i := 0, H := H, hi := by omega, hf := by simpa using ⟨hfd, hFH⟩ } ?_ ?_ ?_
  · simp [okAll, okv]
  · exact (by (try simp -dsimp only [hpush_noH, hpush_hps, hps_over]); refine hle_hpsb ?_; simp -dsimp [allK, ]; repeat' (first | (refine And.intro ?_ ?_) | (refine sLe.same ?_ ?_ <;> (simp; done)) | (refine sLe.clear ?_ ?_ <;> (first | (simp; done) | (simp; omega))) | (refine sLe.drop 1 ?_ ?_ ?_ <;> (simp; done))))
  clear hfd hFH
  rintro ⟨i, H, hi, ⟨hfd, hFH⟩⟩
  simp only
  by_cases hi1 : i < m
  case neg =>
    have hie : i = m := by omega
    subst hie
    have hnil : (tailC pile).drop (i - 1) = [] := List.drop_eq_nil_of_le (by simp [tailC]; omega)
    rw [hnil] at hfd hFH
    have hFH' : H = FH := hFH
    subst hFH'
    have hle : HLe (hps [(10920, { base := b, blks := [{ z := 1, els := pile.map ri, ty := 3 }] }), (10959, { base := c, blks := [] }), (11232, { base := d, blks := [] })] H) (hps [(10920, { base := b1 + 1000000, blks := [] }), (10959, { base := b2 + 1000000, blks := [] }), (11232, { base := b3 + 1000000, blks := [] })] H) := (by (try simp -dsimp only [hpush_noH, hpush_hps, hps_over]); refine hle_hpsb ?_; simp -dsimp [allK, ]; repeat' (first | (refine And.intro ?_ ?_) | (refine sLe.same ?_ ?_ <;> (simp; done)) | (refine sLe.clear ?_ ?_ <;> (first | (simp; done) | (simp; omega))) | (refine sLe.drop 1 ?_ ?_ ?_ <;> (simp; done))))
    have hin : ¬ (i : Int) < i := by omega
    simp -dsimp [hin]
    repeat' (first | omega | (simp -dsimp [E109, ri, cellp, ints, hin, hm, hle]) | (refine Also.intro ?_ fun _ => ?_) | (refine Hold.intro fun _ => ?_) | (refine And.intro ?_ ?_))
  have hii : (i : Int) < m := by omega
  have wi : IntKind.wrap .i64 ((i : Int) + 1) = (i + 1 : Nat) := wrap_id (by omega) (by omega)
  by_cases hi0 : i = 0
  · subst hi0
    simp -dsimp [hii]
    repeat' (first | omega | (simp -dsimp [E109, ri, cellp, ints, hii, hi1, hm, wi]) | (refine Also.intro ?_ fun _ => ?_) | (refine Hold.intro fun _ => ?_) | (refine And.intro ?_ ?_))
    refine ⟨{ i := 1, H := H, hi := by omega, hf := ⟨by simpa using hfd, by simpa using hFH⟩ }, tle_chain rfl ?_, (by (try simp -dsimp only [hpush_noH, hpush_hps, hps_over]); refine hle_hpsb ?_; simp -dsimp [allK, ]; repeat' (first | (refine And.intro ?_ ?_) | (refine sLe.same ?_ ?_ <;> (simp; done)) | (refine sLe.clear ?_ ?_ <;> (first | (simp; done) | (simp; omega))) | (refine sLe.drop 1 ?_ ?_ ?_ <;> (simp; done)))), by simp only; omega⟩
    simp [okAll, okv]
    exact wrap_id (by omega) (by omega)
  have hip : 0 < i := by omega
  have l1 : i < pile.length := by omega
  have l2 : i - 1 < pile.length := by omega
  have e1 : pile[i]? = some pile[i] := List.getElem?_eq_getElem l1
  have e2 : pile[i - 1]? = some pile[i - 1] := List.getElem?_eq_getElem l2
  have g1 : pile.getD i 0 = pile[i] := by simp [List.getD, e1]
  have g2 : pile.getD (i - 1) 0 = pile[i - 1] := by simp [List.getD, e2]
  have d1 := hpb _ (List.getElem_mem l1)
  have d2 := hpb _ (List.getElem_mem l2)
  have w1 : IntKind.wrap .i64 ((i : Int) - 1) = (i - 1 : Nat) := by rw [wrap_id (by omega) (by omega)]; omega
  have htd := tailC_drop (pile := pile) (i := i - 1) (by omega)
  rw [show i - 1 + 1 = i by omega, g1, g2] at htd
  generalize hu1 : pile[i] = u1 at *
  generalize hu2 : pile[i - 1] = u2 at *
  have dd1 : ((-4000000000000 : Int) ≤ u1 ∧ u1 ≤ 4000000000000) := by omega
  have dd2 : ((-4000000000000 : Int) ≤ u2 ∧ u2 ≤ 4000000000000) := by omega
  generalize hx : dist u1 u2 = x at *
  rw [htd] at hfd hFH
  simp only [List.map_cons, cycV] at hfd hFH
  obtain ⟨hc, bb, hv, ht, hf⟩ := feed_step hfd
  have hgo : ∀ S1 S2 S3, Y.go [.int .i64 x, .int .i64 1] (hps [(10920, S1), (10959, S2), (11232, S3)] H) = ⟨True, .bool bb, hps [(10920, S1), (10959, S2), (11232, S3)] (Y.go [.int .i64 x, .int .i64 1] H).h⟩ := fun S1 S2 S3 => hloc.go hc hv [(10920, S1), (10959, S2), (11232, S3)]
  cases bb with
  | false =>
    rw [hf rfl] at hFH
    generalize (Y.go [.int .i64 x, .int .i64 1] H).h = H' at *
    subst hFH
    have hle : HLe (hps [(10920, { base := b, blks := [{ z := 1, els := pile.map ri, ty := 3 }] }), (10959, { base := c, blks := [] }), (11232, { base := d, blks := [] })] H') (hps [(10920, { base := b1 + 1000000, blks := [] }), (10959, { base := b2 + 1000000, blks := [] }), (11232, { base := b3 + 1000000, blks := [] })] H') := (by (try simp -dsimp only [hpush_noH, hpush_hps, hps_over]); refine hle_hpsb ?_; simp -dsimp [allK, ]; repeat' (first | (refine And.intro ?_ ?_) | (refine sLe.same ?_ ?_ <;> (simp; done)) | (refine sLe.clear ?_ ?_ <;> (first | (simp; done) | (simp; omega))) | (refine sLe.drop 1 ?_ ?_ ?_ <;> (simp; done))))
    simp -dsimp [hii]
    repeat' (first | omega | (simp -dsimp [E109, ri, cellp, ints, hii, hm, hip, l1, l2, e1, e2, hu1, hu2, w1, dd1, dd2, hx, hgo, hle]) | (refine Also.intro ?_ fun _ => ?_) | (refine Hold.intro fun _ => ?_) | (refine And.intro ?_ ?_))
  | true =>
    obtain ⟨hf1, hf2⟩ := ht rfl
    rw [hf2] at hFH
    generalize (Y.go [.int .i64 x, .int .i64 1] H).h = H' at *
    simp -dsimp [hii]
    repeat' (first | omega | (simp -dsimp [E109, ri, cellp, ints, hii, hm, hip, l1, l2, e1, e2, hu1, hu2, w1, wi, dd1, dd2, hx, hgo]) | (refine Also.intro ?_ fun _ => ?_) | (refine Hold.intro fun _ => ?_) | (refine And.intro ?_ ?_))
    refine ⟨{ i := i + 1, H := H', hi := by omega, hf := ⟨hf1, hFH⟩ }, tle_chain rfl ?_, (by (try simp -dsimp only [hpush_noH, hpush_hps, hps_over]); refine hle_hpsb ?_; simp -dsimp [allK, ]; repeat' (first | (refine And.intro ?_ ?_) | (refine sLe.same ?_ ?_ <;> (simp; done)) | (refine sLe.clear ?_ ?_ <;> (first | (simp; done) | (simp; omega))) | (refine sLe.drop 1 ?_ ?_ ?_ <;> (simp; done)))), by simp only; omega⟩
    simp [okAll, okv]
theorem ok109 : FnOK Tryz.prog 109 (.iter cntS) := iter_fn (E := E109) rfl (.cons ok110 (.cons ok111 (.cons ok112 .nil))) (ok := []) (fn := Tryz.f109) (by kernel_rfl) (by kernel_rfl) (by kernel_rfl) (fun _ _ => by kernel_rfl) rfl (fun l Y args h hc => by obtain ⟨_, _, _, rfl, _⟩ := cnt_inv hc; simp) kp81 b109
end Go.Sx
end
