/- A part of a proof; no conditions. -/
import Derived.Test.YtbdphjgpjhlpmaaSxP
import Derived.Test.YtbdphjgpjhlpmaaSyTy
set_option linter.unusedSimpArgs false
set_option linter.unusedVariables false
set_option maxRecDepth 100000
namespace Go.Sx
open Go.Proofs

/-! within -/
def withinB (n lo hi : Int) : Bool := decide (lo ≤ n ∧ n ≤ hi)
abbrev withinS : PSpec := { dom := Int × Int × Int, enc := fun d => [.int .i64 d.1, .int .i64 d.2.1, .int .i64 d.2.2], dec := fun l => ((l.getD 0 .top).toInt, (l.getD 1 .top).toInt, (l.getD 2 .top).toInt), pre := fun _ => True, res := fun d => .bool (withinB d.1 d.2.1 d.2.2) }
noncomputable abbrev E24 : Env := { P := Try.prog, fn := tbl [], own := [], key := 2400, nt := 15 }
theorem b24 : PureBody E24 [] Try.f24 withinS := by
  refine pb ?_
  rintro ⟨n, lo, hi⟩ _
  simp -dsimp [Try.f24, E24, withinB]
  repeat' (first | omega | (simp -dsimp [E24, withinB, *]) | (refine Also.intro ?_ fun _ => ?_) | (refine Hold.intro fun _ => ?_) | (refine And.intro ?_ ?_))
theorem ok24 : FnOK Try.prog 24 (.pure withinS) := pure_fn (E := E24) rfl LOK.nil (ok := []) (fn := Try.f24) (by kernel_rfl) (by kernel_rfl) (by kernel_rfl) (by kernel_rfl) rfl (fun _ _ => by simp) b24
noncomputable abbrev E17 : Env := { P := Try.prog, fn := tbl [], own := [], key := 1700, nt := 15 }
theorem b17 : PureBody E17 [] Try.f17 withinS := by
  refine pb ?_
  rintro ⟨n, lo, hi⟩ _
  simp -dsimp [Try.f17, E17, withinB]
  repeat' (first | omega | (simp -dsimp [E17, withinB, *]) | (refine Also.intro ?_ fun _ => ?_) | (refine Hold.intro fun _ => ?_) | (refine And.intro ?_ ?_))
theorem ok17 : FnOK Try.prog 17 (.pure withinS) := pure_fn (E := E17) rfl LOK.nil (ok := []) (fn := Try.f17) (by kernel_rfl) (by kernel_rfl) (by kernel_rfl) (by kernel_rfl) rfl (fun _ _ => by simp) b17

/-! all -/
def cellp (n : Int) : V := .ip 1 [[.int .i64 n]] 0 0
abbrev outS : PSpec := { dom := Int × Int × Int, enc := fun d => [.int .i64 d.1, cellp d.2.1, cellp d.2.2], dec := fun l => ((l.getD 0 .top).toInt, (l.getD 1 .top).peek.toInt, (l.getD 2 .top).peek.toInt), pre := fun _ => True, res := fun d => .bool (!withinB d.1 d.2.1 d.2.2) }
noncomputable abbrev E37 : Env := { P := Try.prog, fn := tbl [(24, .pure withinS)], own := [], key := 3700, nt := 10 }
theorem b37 : PureBody E37 [] Try.f37 outS := by
  refine pb ?_
  rintro ⟨n, lo, hi⟩ _
  simp -dsimp [Try.f37, E37, cellp]
theorem ok37 : FnOK Try.prog 37 (.pure outS) := pure_fn (E := E37) rfl (.cons ok24 .nil) (ok := []) (fn := Try.f37) (by kernel_rfl) (by kernel_rfl) (by kernel_rfl) (by kernel_rfl) rfl (fun _ _ => by simp) b37

def idxZ (l : List Int) (p : Int → Bool) : Int := match l.findIdx? p with | some i => i | none => -1
theorem idxZ_at (l : List Int) (p : Int → Bool) {k : Nat} (hk : k < l.length) (hp : p l[k] = true) (h : ∀ j (hj : j < l.length), j < k → p l[j] = false) : idxZ l p = k := by
  have : l.findIdx? p = some k := by
    rw [List.findIdx?_eq_some_iff_getElem]
    exact ⟨hk, hp, fun j hj => by simp [h j (by omega) hj]⟩
  simp [idxZ, this]
theorem idxZ_none (l : List Int) (p : Int → Bool) (h : ∀ j (hj : j < l.length), p l[j] = false) : idxZ l p = -1 := by
  have : l.findIdx? p = none := by
    rw [List.findIdx?_eq_none_iff]
    intro x hx
    obtain ⟨j, hj, rfl⟩ := List.getElem_of_mem hx
    exact h j hj
  simp [idxZ, this]
abbrev idxOutS : PSpec := { dom := List Int × Int × Int, enc := fun d => [ints d.1, .fn 37 [cellp d.2.1, cellp d.2.2]], dec := fun l => ((l.getD 0 .top).toInts, ((l.getD 1 .top).caps.getD 0 .top).peek.toInt, ((l.getD 1 .top).caps.getD 1 .top).peek.toInt), pre := fun d => d.1.length ≤ 9223372036854775807, res := fun d => .int .i64 (idxZ d.1 fun n => !withinB n d.2.1 d.2.2) }
noncomputable abbrev E59 : Env := { P := Try.prog, fn := tbl [(37, .pure outS)], own := [], key := 5900, nt := 19 }
theorem b59 : PureBody E59 [] Try.f59 idxOutS := by
  refine pb ?_
  rintro ⟨l, lo, hi⟩ hl
  simp -dsimp [Try.f59, E59, cellp, ints]
  refine awp_loop [9, 10, 5, 11, 12, 13, 14, 15, 16, 17, 4, 18, 8] (fun k : { k : Nat // k ≤ l.length ∧ ∀ j (h : j < l.length), j < k → withinB l[j] lo hi = true } => [(8, (true, .int .i64 k.1))]) (fun _ => noH) (fun k => l.length - k.1) ⟨0, by omega, fun _ _ h => by omega⟩ ?_ (HLe.refl _) ?_
  · simp [okAll, okv]
  rintro ⟨k, hk, hall⟩
  simp -dsimp [ri]
  repeat' (first | omega | (simp -dsimp [ri, cellp, *]) | (refine Also.intro ?_ fun _ => ?_) | (refine Hold.intro fun _ => ?_) | (refine And.intro ?_ ?_))
  · rename_i h1 h2
    exact (idxZ_at l _ h1 (by simp [h2]) (fun j h hj => by simp [hall j h hj])).symm
  · rename_i h1 h2
    refine ⟨k + 1, tle_chain rfl ?_, HLe.refl _, ⟨by omega, fun j h hj => ?_⟩, by omega⟩
    · simp [okAll, okv]
      exact wrap_id (by omega) (by simp at hl; omega)
    · by_cases hjk : j = k
      · subst hjk; exact h2
      · exact hall j h (by omega)
  · exact (idxZ_none l _ (fun j h => by simp [hall j h (by omega)])).symm
theorem ok59 : FnOK Try.prog 59 (.pure idxOutS) := pure_fn (E := E59) rfl (.cons ok37 .nil) (ok := []) (fn := Try.f59) (by kernel_rfl) (by kernel_rfl) (by kernel_rfl) (by kernel_rfl) rfl (fun _ _ => by simp) b59

def anyB (l : List Int) (p : Int → Bool) : Bool := l.any p
theorem idxZ_any (l : List Int) (p : Int → Bool) : decide (0 ≤ idxZ l p) = l.any p := by
  unfold idxZ
  cases h : l.findIdx? p with
  | none => rw [List.findIdx?_eq_none_iff] at h; simp; exact fun x hx => by simpa using h x hx
  | some i =>
    have : l.any p = true := by
      rw [List.findIdx?_eq_some_iff_getElem] at h
      obtain ⟨h1, h2, _⟩ := h
      exact List.any_eq_true.2 ⟨_, List.getElem_mem h1, h2⟩
    simp [this]
abbrev anyOutS : PSpec := { idxOutS with res := fun d => .bool (d.1.any fun n => !withinB n d.2.1 d.2.2) }
noncomputable abbrev E36 : Env := { P := Try.prog, fn := tbl [(59, .pure idxOutS)], own := [], key := 3600, nt := 9 }
theorem b36 : PureBody E36 [] Try.f36 anyOutS := by
  refine pb ?_
  rintro ⟨l, lo, hi⟩ hl
  simp only at hl
  simp -dsimp [Try.f36, E36, cellp, ints, hl]
  exact idxZ_any l _
theorem ok36 : FnOK Try.prog 36 (.pure anyOutS) := pure_fn (E := E36) rfl (.cons ok59 .nil) (ok := []) (fn := Try.f36) (by kernel_rfl) (by kernel_rfl) (by kernel_rfl) (by kernel_rfl) rfl (fun _ _ => by simp) b36

def allB (l : List Int) (lo hi : Int) : Bool := l.all fun n => withinB n lo hi
abbrev allS : PSpec := { dom := List Int × Int × Int, enc := fun d => [ints d.1, .int .i64 d.2.1, .int .i64 d.2.2], dec := fun l => ((l.getD 0 .top).toInts, (l.getD 1 .top).toInt, (l.getD 2 .top).toInt), pre := fun d => d.1.length ≤ 9223372036854775807, res := fun d => .bool (allB d.1 d.2.1 d.2.2) }
noncomputable abbrev E22 : Env := { P := Try.prog, fn := tbl [(36, .pure anyOutS)], own := [], key := 2200, nt := 11 }
theorem b22 : PureBody E22 [] Try.f22 allS := by
  refine pb ?_
  rintro ⟨l, lo, hi⟩ hl
  simp only at hl
  simp -dsimp [Try.f22, E22, cellp, ints, hl]
  simp [allB, List.not_all_eq_any_not]
theorem ok22 : FnOK Try.prog 22 (.pure allS) := pure_fn (E := E22) rfl (.cons ok36 .nil) (ok := []) (fn := Try.f22) (by kernel_rfl) (by kernel_rfl) (by kernel_rfl) (by kernel_rfl) rfl (fun _ _ => by simp) b22
end Go.Sx

