/- A part of a proof; no conditions. -/
import Derived.Test.YtjnfgejicdnjnaaSxP
import Derived.Test.YtjnfgejicdnjnaaSxTy
set_option linter.unusedSimpArgs false
set_option linter.unusedVariables false
set_option maxRecDepth 100000
namespace Go.Sx
open Go.Proofs

/-! within -/
def withinB (n lo hi : Int) : Bool := decide (lo ≤ n ∧ n ≤ hi)
abbrev withinS : PSpec := { dom := Int × Int × Int, enc := fun d => [.int .i64 d.1, .int .i64 d.2.1, .int .i64 d.2.2], dec := fun l => ((l.getD 0 .top).toInt, (l.getD 1 .top).toInt, (l.getD 2 .top).toInt), pre := fun _ => True, res := fun d => .bool (withinB d.1 d.2.1 d.2.2) }
noncomputable abbrev E56 : Env := { P := Try.prog, fn := tbl [], own := [], key := 5600, nt := 15 }
theorem b56 : PureBody E56 [] Try.f56 withinS := by
  refine pb ?_
  rintro ⟨n, lo, hi⟩ _
  simp -dsimp [Try.f56, E56, withinB]
  repeat' (first | omega | (simp -dsimp [E56, withinB, *]) | (refine Also.intro ?_ fun _ => ?_) | (refine Hold.intro fun _ => ?_) | (refine And.intro ?_ ?_))
theorem ok56 : FnOK Try.prog 56 (.pure withinS) := pure_fn (E := E56) rfl LOK.nil (ok := []) (fn := Try.f56) (by kernel_rfl) (by kernel_rfl) (by kernel_rfl) (by kernel_rfl) rfl (fun _ _ => by simp) b56
noncomputable abbrev E57 : Env := { P := Try.prog, fn := tbl [], own := [], key := 5700, nt := 15 }
theorem b57 : PureBody E57 [] Try.f57 withinS := by
  refine pb ?_
  rintro ⟨n, lo, hi⟩ _
  simp -dsimp [Try.f57, E57, withinB]
  repeat' (first | omega | (simp -dsimp [E57, withinB, *]) | (refine Also.intro ?_ fun _ => ?_) | (refine Hold.intro fun _ => ?_) | (refine And.intro ?_ ?_))
theorem ok57 : FnOK Try.prog 57 (.pure withinS) := pure_fn (E := E57) rfl LOK.nil (ok := []) (fn := Try.f57) (by kernel_rfl) (by kernel_rfl) (by kernel_rfl) (by kernel_rfl) rfl (fun _ _ => by simp) b57

/-! all -/
def cellp (n : Int) : V := .ip 1 [[.int .i64 n]] 0 0
abbrev outS : PSpec := { dom := Int × Int × Int, enc := fun d => [.int .i64 d.1, cellp d.2.1, cellp d.2.2], dec := fun l => ((l.getD 0 .top).toInt, (l.getD 1 .top).peek.toInt, (l.getD 2 .top).peek.toInt), pre := fun _ => True, res := fun d => .bool (!withinB d.1 d.2.1 d.2.2) }
noncomputable abbrev E87 : Env := { P := Try.prog, fn := tbl [(56, .pure withinS)], own := [], key := 8700, nt := 10 }
theorem b87 : PureBody E87 [] Try.f87 outS := by
  refine pb ?_
  rintro ⟨n, lo, hi⟩ _
  simp -dsimp [Try.f87, E87, cellp]
theorem ok87 : FnOK Try.prog 87 (.pure outS) := pure_fn (E := E87) rfl (.cons ok56 .nil) (ok := []) (fn := Try.f87) (by kernel_rfl) (by kernel_rfl) (by kernel_rfl) (by kernel_rfl) rfl (fun _ _ => by simp) b87

def idxZ (l : List Int) (p : Int → Bool) : Int := match l.findIdx? p with | some i => i | none => -1
theorem idxZ_at (l : List Int) (p : Int → Bool) {k : Nat} (hk : k < l.length) (hp : p l[k] = true) (h : ∀ j (hj : j < l.length), j < k → p l[j] = false) : idxZ l p = k := by
  have : l.findIdx? p = some k := by
    rw [List.findIdx?_eq_some_iff_getElem]
    exact ⟨hk, hp, fun j hj => by simp [h j (by omega) hj]⟩
  simp [idxZ, this]
theorem idxZ_none (l : List Int) (p : Int → Bool) (h : ∀ j (hj : j < l.length), p l[j] = false) : idxZ l p = -1 := by
  have : l.findIdx? p = none := by
    rw [List.findIdx?_eq_none_iff]
    intro x hx
    obtain ⟨j, hj, rfl⟩ := List.getElem_of_mem hx
    exact h j hj
  simp [idxZ, this]
abbrev idxOutS : PSpec := { dom := List Int × Int × Int, enc := fun d => [ints d.1, .fn 87 [cellp d.2.1, cellp d.2.2]], dec := fun l => ((l.getD 0 .top).toInts, ((l.getD 1 .top).caps.getD 0 .top).peek.toInt, ((l.getD 1 .top).caps.getD 1 .top).peek.toInt), pre := fun d => d.1.length ≤ 9223372036854775807, res := fun d => .int .i64 (idxZ d.1 fun n => !withinB n d.2.1 d.2.2) }
noncomputable abbrev E98 : Env := { P := Try.prog, fn := tbl [(87, .pure outS)], own := [], key := 9800, nt := 19 }
theorem b98 : PureBody E98 [] Try.f98 idxOutS := by
  refine pb ?_
  rintro ⟨l, lo, hi⟩ hl
  simp -dsimp [Try.f98, E98, cellp, ints]
  refine awp_loop [9, 10, 5, 11, 12, 13, 14, 15, 16, 17, 4, 18, 8] (fun k : { k : Nat // k ≤ l.length ∧ ∀ j (h : j < l.length), j < k → withinB l[j] lo hi = true } => [(8, (true, .int .i64 k.1))]) (fun _ => noH) (fun k => l.length - k.1) ⟨0, by omega, fun _ _ h => by omega⟩ ?_ (HLe.refl _) ?_
  · simp [okAll, okv]
  rintro ⟨k, hk, hall⟩
  simp -dsimp [ri]
  repeat' (first | omega | (simp -dsimp [ri, cellp, *]) | (refine Also.intro ?_ fun _ => ?_) | (refine Hold.intro fun _ => ?_) | (refine And.intro ?_ ?_))
  · rename_i h1 h2
    exact (idxZ_at l _ h1 (by simp [h2]) (fun j h hj => by simp [hall j h hj])).symm
  · rename_i h1 h2
    refine ⟨k + 1, tle_chain rfl ?_, HLe.refl _, ⟨by omega, fun j h hj => ?_⟩, by omega⟩
    · simp [okAll, okv]
      exact wrap_id (by omega) (by simp at hl; omega)
    · by_cases hjk : j = k
      · subst hjk; exact h2
      · exact hall j h (by omega)
  · exact (idxZ_none l _ (fun j h => by simp [hall j h (by omega)])).symm
theorem ok98 : FnOK Try.prog 98 (.pure idxOutS) := pure_fn (E := E98) rfl (.cons ok87 .nil) (ok := []) (fn := Try.f98) (by kernel_rfl) (by kernel_rfl) (by kernel_rfl) (by kernel_rfl) rfl (fun _ _ => by simp) b98

def anyB (l : List Int) (p : Int → Bool) : Bool := l.any p
theorem idxZ_any (l : List Int) (p : Int → Bool) : decide (0 ≤ idxZ l p) = l.any p := by
  unfold idxZ
  cases h : l.findIdx? p with
  | none => rw [List.findIdx?_eq_none_iff] at h; simp; exact fun x hx => by simpa using h x hx
  | some i =>
    have : l.any p = true := by
      rw [List.findIdx?_eq_some_iff_getElem] at h
      obtain ⟨h1, h2, _⟩ := h
      exact List.any_eq_true.2 ⟨_, List.getElem_mem h1, h2⟩
    simp [this]
abbrev anyOutS : PSpec := { idxOutS with res := fun d => .bool (d.1.any fun n => !withinB n d.2.1 d.2.2) }
noncomputable abbrev E86 : Env := { P := Try.prog, fn := tbl [(98, .pure idxOutS)], own := [], key := 8600, nt := 9 }
theorem b86 : PureBody E86 [] Try.f86 anyOutS := by
  refine pb ?_
  rintro ⟨l, lo, hi⟩ hl
  simp only at hl
  simp -dsimp [Try.f86, E86, cellp, ints, hl]
  exact idxZ_any l _
theorem ok86 : FnOK Try.prog 86 (.pure anyOutS) := pure_fn (E := E86) rfl (.cons ok98 .nil) (ok := []) (fn := Try.f86) (by kernel_rfl) (by kernel_rfl) (by kernel_rfl) (by kernel_rfl) rfl (fun _ _ => by simp) b86

def allB (l : List Int) (lo hi : Int) : Bool := l.all fun n => withinB n lo hi
abbrev allS : PSpec := { dom := List Int × Int × Int, enc := fun d => [ints d.1, .int .i64 d.2.1, .int .i64 d.2.2], dec := fun l => ((l.getD 0 .top).toInts, (l.getD 1 .top).toInt, (l.getD 2 .top).toInt), pre := fun d => d.1.length ≤ 9223372036854775807, res := fun d => .bool (allB d.1 d.2.1 d.2.2) }
noncomputable abbrev E58 : Env := { P := Try.prog, fn := tbl [(86, .pure anyOutS)], own := [], key := 5800, nt := 11 }
theorem b58 : PureBody E58 [] Try.f58 allS := by
  refine pb ?_
  rintro ⟨l, lo, hi⟩ hl
  simp only at hl
  simp -dsimp [Try.f58, E58, cellp, ints, hl]
  simp [allB, List.not_all_eq_any_not]
theorem ok58 : FnOK Try.prog 58 (.pure allS) := pure_fn (E := E58) rfl (.cons ok86 .nil) (ok := []) (fn := Try.f58) (by kernel_rfl) (by kernel_rfl) (by kernel_rfl) (by kernel_rfl) rfl (fun _ _ => by simp) b58
end Go.Sx
