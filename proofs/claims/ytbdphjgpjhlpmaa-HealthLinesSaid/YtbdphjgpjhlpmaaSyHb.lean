/- A part of a proof; no conditions. -/
import Derived.Test.YtbdphjgpjhlpmaaSyHa
set_option linter.unusedSimpArgs false
set_option linter.unusedVariables false
set_option maxRecDepth 100000
namespace Go.Sx
open Go.Proofs

abbrev isNaNS : PSpec := { dom := Int, enc := fun n => [.int .i64 n], dec := fun l => (l.getD 0 .top).toInt, pre := fun _ => True, res := fun _ => .bool false }
noncomputable abbrev E66 : Env := { P := Try.prog, fn := tbl [], own := [], key := 6600, nt := 6 }
theorem b66 : PureBody E66 [] Try.f66 isNaNS := by
  refine pb fun n _ => ?_
  simp -dsimp [Try.f66, E66]
theorem ok66 : FnOK Try.prog 66 (.pure isNaNS) := pure_fn (E := E66) rfl LOK.nil (ok := []) (fn := Try.f66) (by kernel_rfl) (by kernel_rfl) (by kernel_rfl) (by kernel_rfl) rfl (fun _ _ => by simp) b66

def cmpZ (x y : Int) : Int := if x < y then -1 else if y < x then 1 else 0
abbrev cmpS : PSpec := { dom := Int × Int, enc := fun n => [.int .i64 n.1, .int .i64 n.2], dec := fun l => ((l.getD 0 .top).toInt, (l.getD 1 .top).toInt), pre := fun _ => True, res := fun n => .int .i64 (cmpZ n.1 n.2) }
noncomputable abbrev E58 : Env := { P := Try.prog, fn := tbl [(66, .pure isNaNS)], own := [], key := 5800, nt := 20 }
theorem b58 : PureBody E58 [] Try.f58 cmpS := by
  refine pb fun n _ => ?_
  simp -dsimp [Try.f58, E58, cmpZ]
  repeat' (first | omega | (simp -dsimp [E58, ri, cellp, ints, *]) | (refine Also.intro ?_ fun _ => ?_) | (refine Hold.intro fun _ => ?_) | (refine And.intro ?_ ?_))
theorem ok58 : FnOK Try.prog 58 (.pure cmpS) := pure_fn (E := E58) rfl (.cons ok66 .nil) (ok := []) (fn := Try.f58) (by kernel_rfl) (by kernel_rfl) (by kernel_rfl) (by kernel_rfl) rfl (fun _ _ => by simp) b58

def gainZ (l : List Int) (v : Int) : Int := (l.map (cmpZ v)).sum
theorem cmp_bound (a b : Int) : -1 ≤ cmpZ a b ∧ cmpZ a b ≤ 1 := by unfold cmpZ; split <;> (try split) <;> omega
theorem gain_bound (l : List Int) (v : Int) : -(l.length : Int) ≤ gainZ l v ∧ gainZ l v ≤ l.length := by
  induction l with
  | nil => simp [gainZ]
  | cons a l ih =>
    have := cmp_bound v a
    simp [gainZ] at ih ⊢
    omega
theorem gain_succ (l : List Int) (v : Int) {k : Nat} (h : k < l.length) : gainZ (l.take (k + 1)) v = gainZ (l.take k) v + cmpZ v l[k] := by
  rw [List.take_succ_eq_append_getElem h]
  simp only [gainZ, List.map_append, List.sum_append, List.map_cons, List.map_nil, List.sum_cons, List.sum_nil, Int.add_zero]
abbrev gainS : PSpec := { dom := List Int × Int, enc := fun d => [ints d.1, .int .i64 d.2], dec := fun l => ((l.getD 0 .top).toInts, (l.getD 1 .top).toInt), pre := fun d => d.1.length ≤ 4000000000000000000, res := fun d => .int .i64 (gainZ d.1 d.2) }
noncomputable abbrev E54 : Env := { P := Try.prog, fn := tbl [(58, .pure cmpS)], own := [], key := 5400, nt := 20 }
theorem b54 : PureBody E54 [] Try.f54 gainS := by
  refine pb ?_
  rintro ⟨l, v⟩ hl
  simp only at hl
  simp -dsimp [Try.f54, E54, ints]
  refine awp_loop [9, 10, 11, 12, 6, 13, 14, 15, 16, 17, 4, 18] (fun k : Fin (l.length + 1) => [(9, (true, .int .i64 k.1)), (4, (true, .int .i64 (gainZ (l.take k.1) v)))]) (fun _ => noH) (fun k => l.length - k.1) ⟨0, by omega⟩ ?_ (HLe.refl _) ?_
  · simp [okAll, okv, gainZ]
  rintro ⟨k, hk⟩
  simp -dsimp [ri]
  repeat' (first | omega | (simp -dsimp [E54, ri, cellp, ints, *]) | (refine Also.intro ?_ fun _ => ?_) | (refine Hold.intro fun _ => ?_) | (refine And.intro ?_ ?_))
  · rename_i hlt
    have hg := gain_bound (l.take k) v
    have h1 : (l.take k).length ≤ k := by simp; omega
    have h2 := cmp_bound v l[k]
    refine ⟨⟨k + 1, by omega⟩, tle_chain rfl ?_, HLe.refl _, by simp only; omega⟩
    simp [okAll, okv, gain_succ l v hlt]
    exact ⟨wrap_id (by omega) (by omega), wrap_id (by omega) (by omega)⟩
  · rw [List.take_of_length_le (by omega)]
theorem ok54 : FnOK Try.prog 54 (.pure gainS) := pure_fn (E := E54) rfl (.cons ok58 .nil) (ok := []) (fn := Try.f54) (by kernel_rfl) (by kernel_rfl) (by kernel_rfl) (by kernel_rfl) rfl (fun _ _ => by simp) b54

def trendZ (l : List Int) : Int := ((List.range l.length).map fun i => gainZ (l.take i) (l.getD i 0)).sum
def trendTo (l : List Int) (k : Nat) : Int := ((List.range k).map fun i => gainZ (l.take i) (l.getD i 0)).sum
theorem trendTo_succ (l : List Int) (k : Nat) : trendTo l (k + 1) = trendTo l k + gainZ (l.take k) (l.getD k 0) := by
  simp [trendTo, List.range_succ, List.sum_append]
theorem trendTo_bound (l : List Int) (k : Nat) : -((k : Int) * l.length) ≤ trendTo l k ∧ trendTo l k ≤ (k : Int) * l.length := by
  induction k with
  | zero => simp [trendTo]
  | succ k ih =>
    rw [trendTo_succ]
    have := gain_bound (l.take k) (l.getD k 0)
    have h1 : (l.take k).length ≤ l.length := by simp; omega
    have e : ((k + 1 : Nat) : Int) * l.length = (k : Int) * l.length + l.length := by rw [Int.natCast_add, Int.add_mul]; simp
    omega
abbrev trendS : PSpec := { dom := List Int, enc := fun d => [ints d], dec := fun l => (l.getD 0 .top).toInts, pre := fun d => d.length ≤ 1000000, res := fun d => .int .i64 (trendZ d) }
noncomputable abbrev E51 : Env := { P := Try.prog, fn := tbl [(54, .pure gainS)], own := [], key := 5100, nt := 21 }
theorem b51 : PureBody E51 [] Try.f51 trendS := by
  refine pb ?_
  rintro l hl
  simp -dsimp [Try.f51, E51, ints]
  refine awp_loop [8, 9, 10, 11, 3, 4, 12, 13, 14, 15, 16, 17, 18, 2, 19, 7] (fun k : Fin (l.length + 1) => [(7, (true, .int .i64 k.1)), (2, (true, .int .i64 (trendTo l k.1)))]) (fun _ => noH) (fun k => l.length - k.1) ⟨0, by omega⟩ ?_ (HLe.refl _) ?_
  · simp [okAll, okv, trendTo]
  rintro ⟨k, hk⟩
  simp -dsimp [ri]
  repeat' (first | omega | (simp -dsimp [E51, ri, cellp, ints, *]) | (refine Also.intro ?_ fun _ => ?_) | (refine Hold.intro fun _ => ?_) | (refine And.intro ?_ ?_))
  · rename_i hlt _ _
    have hg := trendTo_bound l k
    have h1 := gain_bound (l.take k) l[k]
    have h2 : (l.take k).length ≤ l.length := by simp; omega
    have h3 : (k : Int) * l.length ≤ 1000000 * 1000000 := Int.mul_le_mul (by omega) (by omega) (by omega) (by omega)
    refine ⟨⟨k + 1, by omega⟩, tle_chain rfl ?_, HLe.refl _, by simp only; omega⟩
    have e1 : l.getD k 0 = l[k] := by simp [List.getD, List.getElem?_eq_getElem hlt]
    simp [okAll, okv, trendTo_succ, e1]
    simp [hlt]
    exact ⟨wrap_id (by omega) (by omega), wrap_id (by omega) (by omega)⟩
  · have : k = l.length := by omega
    subst this; rfl
theorem ok51 : FnOK Try.prog 51 (.pure trendS) := pure_fn (E := E51) rfl (.cons ok54 .nil) (ok := []) (fn := Try.f51) (by kernel_rfl) (by kernel_rfl) (by kernel_rfl) (by kernel_rfl) rfl (fun _ _ => by simp) b51
def validB (d : List Int) : Bool := withinB d.length 1 8 && allB d (-1000000) 1000000
theorem valid_len {d : List Int} (h : validB d = true) : 1 ≤ d.length ∧ d.length ≤ 8 := by
  simp [validB, withinB] at h; omega
abbrev validS : PSpec := { dom := List Int, enc := fun d => [ints d], dec := fun l => (l.getD 0 .top).toInts, pre := fun d => d.length ≤ 9223372036854775807, res := fun d => .bool (validB d) }
noncomputable abbrev E21 : Env := { P := Try.prog, fn := tbl [(24, .pure withinS), (22, .pure allS)], own := [], key := 2100, nt := 10 }
theorem b21 : PureBody E21 [] Try.f21 validS := by
  refine pb ?_
  rintro l hl
  simp -dsimp [Try.f21, E21, ints, validB]
  repeat' (first | omega | (simp -dsimp [E21, ri, cellp, ints, *]) | (refine Also.intro ?_ fun _ => ?_) | (refine Hold.intro fun _ => ?_) | (refine And.intro ?_ ?_))
theorem ok21 : FnOK Try.prog 21 (.pure validS) := pure_fn (E := E21) rfl (.cons ok24 (.cons ok22 .nil)) (ok := []) (fn := Try.f21) (by kernel_rfl) (by kernel_rfl) (by kernel_rfl) (by kernel_rfl) rfl (fun _ _ => by simp) b21
abbrev TrendS : PSpec := { dom := List Int, enc := fun d => [ints d], dec := fun l => (l.getD 0 .top).toInts, pre := fun d => d.length ≤ 9223372036854775807, res := fun d => if validB d then .tup [.int .i64 (trendZ d), .int .i64 0] else .tup [.int .i64 0, .int .i64 1] }
/-! the reference -/
noncomputable abbrev E26 : Env := { P := Try.prog, fn := tbl [(17, .pure withinS)], own := [], key := 2600, nt := 19 }
theorem b26 : PureBody E26 [] Try.f26 validS := by
  refine pb ?_
  rintro l hl
  simp -dsimp [Try.f26, E26, ints]
  refine awp_loop [4, 5, 6, 7, 10, 11, 12, 13, 14, 15, 2, 8, 9, 3] (fun k : { k : Nat // k ≤ l.length ∧ ∀ j (h : j < l.length), j < k → withinB l[j] (-1000000) 1000000 = true } => [(3, (true, .int .i64 k.1))]) (fun _ => noH) (fun k => l.length - k.1) ⟨0, by omega, fun _ _ h => by omega⟩ ?_ (HLe.refl _) ?_
  · simp [okAll, okv]
  rintro ⟨k, hk, hall⟩
  simp -dsimp [ri]
  repeat' (first | omega | (simp -dsimp [E26, ri, cellp, ints, *]) | (refine Also.intro ?_ fun _ => ?_) | (refine Hold.intro fun _ => ?_) | (refine And.intro ?_ ?_))
  · rename_i h1 h2
    have : allB l (-1000000) 1000000 = false := by
      simp only [allB, List.all_eq_false]
      exact ⟨l[k], List.getElem_mem h1, by simp [h2]⟩
    simp [validB, this]
  · rename_i h1 h2
    refine ⟨k + 1, tle_chain rfl ?_, HLe.refl _, ⟨by omega, fun j h hj => ?_⟩, by omega⟩
    · simp [okAll, okv]
      exact wrap_id (by omega) (by omega)
    · by_cases hjk : j = k
      · subst hjk; exact h2
      · exact hall j h (by omega)
  · have : allB l (-1000000) 1000000 = true := by
      simp only [allB, List.all_eq_true]
      intro x hx
      obtain ⟨j, hj, rfl⟩ := List.getElem_of_mem hx
      exact hall j hj (by omega)
    simp [validB, this]
theorem ok26 : FnOK Try.prog 26 (.pure validS) := pure_fn (E := E26) rfl (.cons ok17 .nil) (ok := []) (fn := Try.f26) (by kernel_rfl) (by kernel_rfl) (by kernel_rfl) (by kernel_rfl) rfl (fun _ _ => by simp) b26
end Go.Sx


