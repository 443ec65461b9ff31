/- A part of a proof; no conditions. -/
import Derived.Test.YtjnfgejicdnjnaaSxHa
set_option linter.unusedSimpArgs false
set_option linter.unusedVariables false
set_option maxRecDepth 100000
namespace Go.Sx
open Go.Proofs

abbrev isNaNS : PSpec := { dom := Int, enc := fun n => [.int .i64 n], dec := fun l => (l.getD 0 .top).toInt, pre := fun _ => True, res := fun _ => .bool false }
noncomputable abbrev E99 : Env := { P := Try.prog, fn := tbl [], own := [], key := 9900, nt := 6 }
theorem b99 : PureBody E99 [] Try.f99 isNaNS := by
  refine pb fun n _ => ?_
  simp -dsimp [Try.f99, E99]
theorem ok99 : FnOK Try.prog 99 (.pure isNaNS) := pure_fn (E := E99) rfl LOK.nil (ok := []) (fn := Try.f99) (by kernel_rfl) (by kernel_rfl) (by kernel_rfl) (by kernel_rfl) rfl (fun _ _ => by simp) b99

def cmpZ (x y : Int) : Int := if x < y then -1 else if y < x then 1 else 0
abbrev cmpS : PSpec := { dom := Int × Int, enc := fun n => [.int .i64 n.1, .int .i64 n.2], dec := fun l => ((l.getD 0 .top).toInt, (l.getD 1 .top).toInt), pre := fun _ => True, res := fun n => .int .i64 (cmpZ n.1 n.2) }
noncomputable abbrev E88 : Env := { P := Try.prog, fn := tbl [(99, .pure isNaNS)], own := [], key := 8800, nt := 20 }
theorem b88 : PureBody E88 [] Try.f88 cmpS := by
  refine pb fun n _ => ?_
  simp -dsimp [Try.f88, E88, cmpZ]
  repeat' (first | omega | (simp -dsimp [E88, ri, cellp, ints, *]) | (refine Also.intro ?_ fun _ => ?_) | (refine Hold.intro fun _ => ?_) | (refine And.intro ?_ ?_))
theorem ok88 : FnOK Try.prog 88 (.pure cmpS) := pure_fn (E := E88) rfl (.cons ok99 .nil) (ok := []) (fn := Try.f88) (by kernel_rfl) (by kernel_rfl) (by kernel_rfl) (by kernel_rfl) rfl (fun _ _ => by simp) b88

def gainZ (l : List Int) (v : Int) : Int := (l.map (cmpZ v)).sum
theorem cmp_bound (a b : Int) : -1 ≤ cmpZ a b ∧ cmpZ a b ≤ 1 := by unfold cmpZ; split <;> (try split) <;> omega
theorem gain_bound (l : List Int) (v : Int) : -(l.length : Int) ≤ gainZ l v ∧ gainZ l v ≤ l.length := by
  induction l with
  | nil => simp [gainZ]
  | cons a l ih =>
    have := cmp_bound v a
    simp [gainZ] at ih ⊢
    omega
theorem gain_succ (l : List Int) (v : Int) {k : Nat} (h : k < l.length) : gainZ (l.take (k + 1)) v = gainZ (l.take k) v + cmpZ v l[k] := by
  rw [List.take_succ_eq_append_getElem h]
  simp only [gainZ, List.map_append, List.sum_append, List.map_cons, List.map_nil, List.sum_cons, List.sum_nil, Int.add_zero]
abbrev gainS : PSpec := { dom := List Int × Int, enc := fun d => [ints d.1, .int .i64 d.2], dec := fun l => ((l.getD 0 .top).toInts, (l.getD 1 .top).toInt), pre := fun d => d.1.length ≤ 4000000000000000000, res := fun d => .int .i64 (gainZ d.1 d.2) }
noncomputable abbrev E83 : Env := { P := Try.prog, fn := tbl [(88, .pure cmpS)], own := [], key := 8300, nt := 20 }
theorem b83 : PureBody E83 [] Try.f83 gainS := by
  refine pb ?_
  rintro ⟨l, v⟩ hl
  simp only at hl
  simp -dsimp [Try.f83, E83, ints]
  refine awp_loop [9, 10, 11, 12, 6, 13, 14, 15, 16, 17, 4, 18] (fun k : Fin (l.length + 1) => [(9, (true, .int .i64 k.1)), (4, (true, .int .i64 (gainZ (l.take k.1) v)))]) (fun _ => noH) (fun k => l.length - k.1) ⟨0, by omega⟩ ?_ (HLe.refl _) ?_
  · simp [okAll, okv, gainZ]
  rintro ⟨k, hk⟩
  simp -dsimp [ri]
  repeat' (first | omega | (simp -dsimp [E83, ri, cellp, ints, *]) | (refine Also.intro ?_ fun _ => ?_) | (refine Hold.intro fun _ => ?_) | (refine And.intro ?_ ?_))
  · rename_i hlt
    have hg := gain_bound (l.take k) v
    have h1 : (l.take k).length ≤ k := by simp; omega
    have h2 := cmp_bound v l[k]
    refine ⟨⟨k + 1, by omega⟩, tle_chain rfl ?_, HLe.refl _, by simp only; omega⟩
    simp [okAll, okv, gain_succ l v hlt]
    exact ⟨wrap_id (by omega) (by omega), wrap_id (by omega) (by omega)⟩
  · rw [List.take_of_length_le (by omega)]
theorem ok83 : FnOK Try.prog 83 (.pure gainS) := pure_fn (E := E83) rfl (.cons ok88 .nil) (ok := []) (fn := Try.f83) (by kernel_rfl) (by kernel_rfl) (by kernel_rfl) (by kernel_rfl) rfl (fun _ _ => by simp) b83

def trendZ (l : List Int) : Int := ((List.range l.length).map fun i => gainZ (l.take i) (l.getD i 0)).sum
def trendTo (l : List Int) (k : Nat) : Int := ((List.range k).map fun i => gainZ (l.take i) (l.getD i 0)).sum
theorem trendTo_succ (l : List Int) (k : Nat) : trendTo l (k + 1) = trendTo l k + gainZ (l.take k) (l.getD k 0) := by
  simp [trendTo, List.range_succ, List.sum_append]
theorem trendTo_bound (l : List Int) (k : Nat) : -((k : Int) * l.length) ≤ trendTo l k ∧ trendTo l k ≤ (k : Int) * l.length := by
  induction k with
  | zero => simp [trendTo]
  | succ k ih =>
    rw [trendTo_succ]
    have := gain_bound (l.take k) (l.getD k 0)
    have h1 : (l.take k).length ≤ l.length := by simp; omega
    have e : ((k + 1 : Nat) : Int) * l.length = (k : Int) * l.length + l.length := by rw [Int.natCast_add, Int.add_mul]; simp
    omega
abbrev trendS : PSpec := { dom := List Int, enc := fun d => [ints d], dec := fun l => (l.getD 0 .top).toInts, pre := fun d => d.length ≤ 1000000, res := fun d => .int .i64 (trendZ d) }
noncomputable abbrev E49 : Env := { P := Try.prog, fn := tbl [(83, .pure gainS)], own := [], key := 4900, nt := 21 }
theorem b49 : PureBody E49 [] Try.f49 trendS := by
  refine pb ?_
  rintro l hl
  simp -dsimp [Try.f49, E49, ints]
  refine awp_loop [8, 9, 10, 11, 3, 4, 12, 13, 14, 15, 16, 17, 18, 2, 19, 7] (fun k : Fin (l.length + 1) => [(7, (true, .int .i64 k.1)), (2, (true, .int .i64 (trendTo l k.1)))]) (fun _ => noH) (fun k => l.length - k.1) ⟨0, by omega⟩ ?_ (HLe.refl _) ?_
  · simp [okAll, okv, trendTo]
  rintro ⟨k, hk⟩
  simp -dsimp [ri]
  repeat' (first | omega | (simp -dsimp [E49, ri, cellp, ints, *]) | (refine Also.intro ?_ fun _ => ?_) | (refine Hold.intro fun _ => ?_) | (refine And.intro ?_ ?_))
  · rename_i hlt _ _
    have hg := trendTo_bound l k
    have h1 := gain_bound (l.take k) l[k]
    have h2 : (l.take k).length ≤ l.length := by simp; omega
    have h3 : (k : Int) * l.length ≤ 1000000 * 1000000 := Int.mul_le_mul (by omega) (by omega) (by omega) (by omega)
    refine ⟨⟨k + 1, by omega⟩, tle_chain rfl ?_, HLe.refl _, by simp only; omega⟩
    have e1 : l.getD k 0 = l[k] := by simp [List.getD, List.getElem?_eq_getElem hlt]
    simp [okAll, okv, trendTo_succ, e1]
    simp [hlt]
    exact ⟨wrap_id (by omega) (by omega), wrap_id (by omega) (by omega)⟩
  · have : k = l.length := by omega
    subst this; rfl
theorem ok49 : FnOK Try.prog 49 (.pure trendS) := pure_fn (E := E49) rfl (.cons ok83 .nil) (ok := []) (fn := Try.f49) (by kernel_rfl) (by kernel_rfl) (by kernel_rfl) (by kernel_rfl) rfl (fun _ _ => by simp) b49
def validB (d : List Int) : Bool := withinB d.length 1 8 && allB d (-1000000) 1000000
theorem valid_len {d : List Int} (h : validB d = true) : 1 ≤ d.length ∧ d.length ≤ 8 := by
  simp [validB, withinB] at h; omega
abbrev validS : PSpec := { dom := List Int, enc := fun d => [ints d], dec := fun l => (l.getD 0 .top).toInts, pre := fun d => d.length ≤ 9223372036854775807, res := fun d => .bool (validB d) }
noncomputable abbrev E48 : Env := { P := Try.prog, fn := tbl [(56, .pure withinS), (58, .pure allS)], own := [], key := 4800, nt := 10 }
theorem b48 : PureBody E48 [] Try.f48 validS := by
  refine pb ?_
  rintro l hl
  simp -dsimp [Try.f48, E48, ints, validB]
  repeat' (first | omega | (simp -dsimp [E48, ri, cellp, ints, *]) | (refine Also.intro ?_ fun _ => ?_) | (refine Hold.intro fun _ => ?_) | (refine And.intro ?_ ?_))
theorem ok48 : FnOK Try.prog 48 (.pure validS) := pure_fn (E := E48) rfl (.cons ok56 (.cons ok58 .nil)) (ok := []) (fn := Try.f48) (by kernel_rfl) (by kernel_rfl) (by kernel_rfl) (by kernel_rfl) rfl (fun _ _ => by simp) b48
abbrev TrendS : PSpec := { dom := List Int, enc := fun d => [ints d], dec := fun l => (l.getD 0 .top).toInts, pre := fun d => d.length ≤ 9223372036854775807, res := fun d => if validB d then .tup [.int .i64 (trendZ d), .int .i64 0] else .tup [.int .i64 0, .int .i64 1] }
noncomputable abbrev E15 : Env := { P := Try.prog, fn := tbl [(48, .pure validS), (49, .pure trendS)], own := [], key := 1500, nt := 9 }
theorem b15 : PureBody E15 [] Try.f15 TrendS := by
  refine pb ?_
  rintro l hl
  simp -dsimp [Try.f15, E15, ints]
  repeat' (first | omega | (simp -dsimp [E15, ri, cellp, ints, *]) | (refine Also.intro ?_ fun _ => ?_) | (refine Hold.intro fun _ => ?_) | (refine And.intro ?_ ?_))
  have := valid_len (by assumption)
  omega
theorem ok15 : FnOK Try.prog 15 (.pure TrendS) := pure_fn (E := E15) rfl (.cons ok48 (.cons ok49 .nil)) (ok := []) (fn := Try.f15) (by kernel_rfl) (by kernel_rfl) (by kernel_rfl) (by kernel_rfl) rfl (fun _ _ => by simp) b15
/-! the reference -/
noncomputable abbrev E50 : Env := { P := Try.prog, fn := tbl [(57, .pure withinS)], own := [], key := 5000, nt := 19 }
theorem b50 : PureBody E50 [] Try.f50 validS := by
  refine pb ?_
  rintro l hl
  simp -dsimp [Try.f50, E50, ints]
  refine awp_loop [4, 5, 6, 7, 10, 11, 12, 13, 14, 15, 2, 8, 9, 3] (fun k : { k : Nat // k ≤ l.length ∧ ∀ j (h : j < l.length), j < k → withinB l[j] (-1000000) 1000000 = true } => [(3, (true, .int .i64 k.1))]) (fun _ => noH) (fun k => l.length - k.1) ⟨0, by omega, fun _ _ h => by omega⟩ ?_ (HLe.refl _) ?_
  · simp [okAll, okv]
  rintro ⟨k, hk, hall⟩
  simp -dsimp [ri]
  repeat' (first | omega | (simp -dsimp [E50, ri, cellp, ints, *]) | (refine Also.intro ?_ fun _ => ?_) | (refine Hold.intro fun _ => ?_) | (refine And.intro ?_ ?_))
  · rename_i h1 h2
    have : allB l (-1000000) 1000000 = false := by
      simp only [allB, List.all_eq_false]
      exact ⟨l[k], List.getElem_mem h1, by simp [h2]⟩
    simp [validB, this]
  · rename_i h1 h2
    refine ⟨k + 1, tle_chain rfl ?_, HLe.refl _, ⟨by omega, fun j h hj => ?_⟩, by omega⟩
    · simp [okAll, okv]
      exact wrap_id (by omega) (by omega)
    · by_cases hjk : j = k
      · subst hjk; exact h2
      · exact hall j h (by omega)
  · have : allB l (-1000000) 1000000 = true := by
      simp only [allB, List.all_eq_true]
      intro x hx
      obtain ⟨j, hj, rfl⟩ := List.getElem_of_mem hx
      exact hall j hj (by omega)
    simp [validB, this]
theorem ok50 : FnOK Try.prog 50 (.pure validS) := pure_fn (E := E50) rfl (.cons ok57 .nil) (ok := []) (fn := Try.f50) (by kernel_rfl) (by kernel_rfl) (by kernel_rfl) (by kernel_rfl) rfl (fun _ _ => by simp) b50
noncomputable abbrev E51 : Env := { P := Try.prog, fn := tbl [], own := [], key := 5100, nt := 40 }
theorem b51 : PureBody E51 [] Try.f51 trendS := by
  refine pb ?_
  rintro l hl
  simp -dsimp [Try.f51, E51, ints]
  refine awp_loop [6, 7, 8, 9, 5, 12, 13, 14, 17, 18, 19, 20, 21, 22, 23, 24, 25, 26, 27, 3, 28, 29, 30, 31, 32, 33, 34, 35, 36, 37, 38, 15, 16, 10, 11, 4] (fun k : Fin (l.length + 1) => [(4, (true, .int .i64 k.1)), (3, (true, .int .i64 (trendTo l k.1)))]) (fun _ => noH) (fun k => l.length - k.1) ⟨0, by omega⟩ ?_ (HLe.refl _) ?_
  · simp [okAll, okv, trendTo]
  rintro ⟨k, hk⟩
  simp -dsimp [ri]
  repeat' (first | omega | (simp -dsimp [E51, ri, cellp, ints, *]) | (refine Also.intro ?_ fun _ => ?_) | (refine Hold.intro fun _ => ?_) | (refine And.intro ?_ ?_))
  · rename_i hlt
    refine awp_loop [12, 13, 14, 17, 18, 19, 20, 21, 22, 23, 24, 25, 26, 27, 3, 28, 29, 30, 31, 32, 33, 34, 35, 36, 37, 38, 15, 16, 5] (fun i : Fin (k + 1) => [(5, (true, .int .i64 i.1)), (3, (true, .int .i64 (trendTo l k + gainZ (l.take i.1) l[k])))]) (fun _ => noH) (fun i => k - i.1) ⟨0, by omega⟩ ?_ (HLe.refl _) ?_
    · simp [okAll, okv, gainZ]
    rintro ⟨i, hi⟩
    simp -dsimp [ri]
    have hb1 := trendTo_bound l k
    have hb2 := gain_bound (l.take i) l[k]
    have hb3 : (l.take i).length ≤ l.length := by simp; omega
    have hb4 : (k : Int) * l.length ≤ 1000000 * 1000000 := Int.mul_le_mul (by omega) (by omega) (by omega) (by omega)
    repeat' (first | omega | (simp -dsimp [E51, ri, cellp, ints, *]) | (refine Also.intro ?_ fun _ => ?_) | (refine Hold.intro fun _ => ?_) | (refine And.intro ?_ ?_))
    iterate 3
      focus
        have hil : i < l.length := by omega
        have e := gain_succ l l[k] (k := i) hil
        refine ⟨⟨i + 1, by omega⟩, tle_chain rfl ?_, HLe.refl _, by simp only; omega⟩
        simp only [okAll, okv, e]
        simp [IntKind.wrap_i64]
        unfold cmpZ
        split <;> (try split) <;> omega
    have : i = k := by omega
    subst this
    have e1 : l.getD i 0 = l[i] := by simp [List.getD, List.getElem?_eq_getElem hlt]
    refine ⟨⟨i + 1, by omega⟩, tle_kept (kept_upds rfl (kept_forget rfl (kept_upds rfl kept_base))) ?_, HLe.refl _, by simp only; omega⟩
    simp [okAll, okv, trendTo_succ, e1]
    simp [hlt]
    exact wrap_id (by omega) (by omega)
  · have : k = l.length := by omega
    subst this; rfl
theorem ok51 : FnOK Try.prog 51 (.pure trendS) := pure_fn (E := E51) rfl LOK.nil (ok := []) (fn := Try.f51) (by kernel_rfl) (by kernel_rfl) (by kernel_rfl) (by kernel_rfl) rfl (fun _ _ => by simp) b51
end Go.Sx

