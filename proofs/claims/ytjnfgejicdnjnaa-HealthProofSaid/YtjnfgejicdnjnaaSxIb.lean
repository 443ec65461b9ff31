/- HealthExplains: what the program's Certain calls. No conditions. -/
import Derived.Test.YtjnfgejicdnjnaaSxIa
set_option linter.unusedSimpArgs false
set_option linter.unusedVariables false
set_option maxRecDepth 100000
set_option maxHeartbeats 1000000
namespace Go.Sx
open Go.Proofs

/-! lists of Go's library -/
theorem idxZ_mem (l : List Int) (v : Int) : decide (0 ≤ idxZ l fun x => x == v) = decide (v ∈ l) := by
  unfold idxZ
  cases h : l.findIdx? fun x => x == v with
  | none =>
    rw [List.findIdx?_eq_none_iff] at h
    have : v ∉ l := fun hm => by simpa using h v hm
    simp [this]
  | some i =>
    rw [List.findIdx?_eq_some_iff_getElem] at h
    obtain ⟨h1, h2, _⟩ := h
    have : v ∈ l := by rw [← (by simpa using h2 : l[i] = v)]; exact List.getElem_mem _
    simp [this]
abbrev indexS : PSpec := { hasS with res := fun d => .int .i64 (idxZ d.1 fun x => x == d.2) }
noncomputable abbrev E102 : Env := { P := Try.prog, fn := tbl [], own := [], key := 10200, nt := 19 }
theorem b102 : PureBody E102 [] Try.f102 indexS := by
  refine pb ?_
  rintro ⟨l, v⟩ hl
  simp only at hl
  simp -dsimp [Try.f102, E102, ints]
  refine awp_loop [9, 10, 5, 11, 12, 13, 14, 15, 16, 17, 4, 18, 8] (fun k : { k : Nat // k ≤ l.length ∧ ∀ j (h : j < l.length), j < k → l[j] ≠ v } => [(8, (true, .int .i64 (k.1 : Nat)))]) (fun _ => noH) (fun k => l.length - k.1) ⟨0, by omega, fun _ _ h => by omega⟩ ?_ (HLe.refl _) ?_
  · simp [okAll, okv]
  rintro ⟨k, hk, hc⟩
  simp only
  by_cases hk1 : k < l.length
  case neg =>
    have hf := idxZ_none l (fun x => x == v) (fun j hj => by simpa using hc j hj (by omega))
    simp -dsimp [hk1]
    repeat' (first | omega | (simp -dsimp [E102, ri, cellp, ints, hk1, hf]) | (refine Also.intro ?_ fun _ => ?_) | (refine Hold.intro fun _ => ?_) | (refine And.intro ?_ ?_))
  have w1 : IntKind.wrap .i64 ((k : Int) + 1) = (k + 1 : Nat) := wrap_id (by omega) (by omega)
  by_cases hx : v = l[k]
  · have ht := idxZ_at l (fun x => x == v) hk1 (by simp [hx]) (fun j hj h => by simpa using hc j hj h)
    simp -dsimp [hk1, ri]
    repeat' (first | omega | (simp -dsimp [E102, ri, cellp, ints, hk1, ← hx, ht]) | (refine Also.intro ?_ fun _ => ?_) | (refine Hold.intro fun _ => ?_) | (refine And.intro ?_ ?_))
  · simp -dsimp [hk1, ri]
    repeat' (first | omega | (simp -dsimp [E102, ri, cellp, ints, hk1, hx, w1]) | (refine Also.intro ?_ fun _ => ?_) | (refine Hold.intro fun _ => ?_) | (refine And.intro ?_ ?_))
    refine ⟨k + 1, tle_chain rfl ?_, HLe.refl _, ⟨hk1, fun j hj h => ?_⟩, by omega⟩
    · simp [okAll, okv]
    · by_cases e : j = k
      · subst e; exact Ne.symm hx
      · exact hc j hj (by omega)
theorem ok102 : FnOK Try.prog 102 (.pure indexS) := pure_fn (E := E102) rfl LOK.nil (ok := []) (fn := Try.f102) (by kernel_rfl) (by kernel_rfl) (by kernel_rfl) (by kernel_rfl) rfl (fun _ _ => by simp) b102
noncomputable abbrev E95 : Env := { P := Try.prog, fn := tbl [(102, .pure indexS)], own := [], key := 9500, nt := 9 }
theorem b95 : PureBody E95 [] Try.f95 hasS := by
  refine pb ?_
  rintro ⟨l, v⟩ hl
  simp only at hl
  have hm := idxZ_mem l v
  simp -dsimp [Try.f95, E95, ints]
  repeat' (first | omega | (simp -dsimp [E95, ri, cellp, ints, hl, hm]) | (refine Also.intro ?_ fun _ => ?_) | (refine Hold.intro fun _ => ?_) | (refine And.intro ?_ ?_))
theorem ok95 : FnOK Try.prog 95 (.pure hasS) := pure_fn (E := E95) rfl (.cons ok102 .nil) (ok := []) (fn := Try.f95) (by kernel_rfl) (by kernel_rfl) (by kernel_rfl) (by kernel_rfl) rfl (fun _ _ => by simp) b95
abbrev loS : PSpec := { dom := Ex1, enc := fun d => [exV d], dec := fun l => (l.getD 0 .top).toEx, pre := fun _ => True, res := fun d => ints d.1 }
abbrev woS : PSpec := { loS with res := fun d => ints d.2 }
noncomputable abbrev E71 : Env := { P := Try.prog, fn := tbl [], own := [], key := 7100, nt := 5 }
theorem b71 : PureBody E71 [] Try.f71 loS := by
  refine pb ?_
  rintro ⟨a, b⟩ _
  simp -dsimp [Try.f71, E71, exV, ints]
theorem ok71 : FnOK Try.prog 71 (.pure loS) := pure_fn (E := E71) rfl LOK.nil (ok := []) (fn := Try.f71) (by kernel_rfl) (by kernel_rfl) (by kernel_rfl) (by kernel_rfl) rfl (fun _ _ => by simp) b71
noncomputable abbrev E72 : Env := { P := Try.prog, fn := tbl [], own := [], key := 7200, nt := 5 }
theorem b72 : PureBody E72 [] Try.f72 woS := by
  refine pb ?_
  rintro ⟨a, b⟩ _
  simp -dsimp [Try.f72, E72, exV, ints]
theorem ok72 : FnOK Try.prog 72 (.pure woS) := pure_fn (E := E72) rfl LOK.nil (ok := []) (fn := Try.f72) (by kernel_rfl) (by kernel_rfl) (by kernel_rfl) (by kernel_rfl) rfl (fun _ _ => by simp) b72
def selF (b : Bool) : Nat := if b then 71 else 72
def V.fnNo : V → Nat
  | .fn f _ => f
  | _ => 0
def capF (b : Bool) : V := .ip 1 [[.fn (selF b) []]] 0 0
abbrev lacksS : PSpec := { dom := Ex1 × Bool × Int, enc := fun d => [exV d.1, capF d.2.1, cellp d.2.2], dec := fun l => ((l.getD 0 .top).toEx, (l.getD 1 .top).peek.fnNo == 71, (l.getD 2 .top).peek.toInt), pre := fun d => d.1.1.length ≤ 1000000 ∧ d.1.2.length ≤ 1000000, res := fun d => .bool (!decide (d.2.2 ∈ sel d.2.1 d.1)) }
noncomputable abbrev E94 : Env := { P := Try.prog, fn := tbl [(71, .pure loS), (72, .pure woS), (95, .pure hasS)], own := [], key := 9400, nt := 11 }
theorem b94 : PureBody E94 [(1, ([2], [[0, 1, 2, 3, 4, 5, 6]]))] Try.f94 lacksS := by
  refine pb ?_
  rintro ⟨⟨x, y⟩, b, n⟩ ⟨p1, p2⟩
  simp only at p1 p2
  have p1' : x.length ≤ 9223372036854775807 := by omega
  have p2' : y.length ≤ 9223372036854775807 := by omega
  cases b
  · simp -dsimp [Try.f94, E94, exV, ints, capF, selF, cellp]
    repeat' (first | omega | (simp -dsimp [E94, ri, cellp, ints, p1', p2', exV, capF, selF, sel, V.toEx, FreeAt]) | (refine Also.intro ?_ fun _ => ?_) | (refine Hold.intro fun _ => ?_) | (refine And.intro ?_ ?_))
  · simp -dsimp [Try.f94, E94, exV, ints, capF, selF, cellp]
    repeat' (first | omega | (simp -dsimp [E94, ri, cellp, ints, p1', p2', exV, capF, selF, sel, V.toEx, FreeAt]) | (refine Also.intro ?_ fun _ => ?_) | (refine Hold.intro fun _ => ?_) | (refine And.intro ?_ ?_))
theorem ok94 : FnOK Try.prog 94 (.pure lacksS) := pure_fn (E := E94) rfl (.cons ok71 (.cons ok72 (.cons ok95 .nil))) (ok := [(1, ([2], [[0, 1, 2, 3, 4, 5, 6]]))]) (fn := Try.f94) (by kernel_rfl) (by kernel_rfl) (by kernel_rfl) (by kernel_rfl) rfl (fun _ _ => by simp) b94
def lacksZ (l : List Ex1) (b : Bool) (n : Int) : Int := match l.findIdx? (fun x => !decide (n ∈ sel b x)) with | some i => i | none => -1
theorem lacksZ_at (l : List Ex1) (b : Bool) (n : Int) {k : Nat} (hk : k < l.length) (hp : ¬ n ∈ sel b l[k]) (h : ∀ j (hj : j < l.length), j < k → n ∈ sel b l[j]) : lacksZ l b n = k := by
  have : l.findIdx? (fun x => !decide (n ∈ sel b x)) = some k := by
    rw [List.findIdx?_eq_some_iff_getElem]
    exact ⟨hk, by simpa using hp, fun j hj => by simpa using h j (by omega) hj⟩
  simp [lacksZ, this]
theorem lacksZ_none (l : List Ex1) (b : Bool) (n : Int) (h : ∀ j (hj : j < l.length), n ∈ sel b l[j]) : lacksZ l b n = -1 := by
  have : l.findIdx? (fun x => !decide (n ∈ sel b x)) = none := by
    rw [List.findIdx?_eq_none_iff]
    intro x hx
    obtain ⟨j, hj, rfl⟩ := List.getElem_of_mem hx
    simpa using h j hj
  simp [lacksZ, this]
def lackB (l : List Ex1) (b : Bool) (n : Int) : Bool := l.any fun x => !decide (n ∈ sel b x)
theorem lacksZ_any (l : List Ex1) (b : Bool) (n : Int) : decide (0 ≤ lacksZ l b n) = lackB l b n := by
  unfold lacksZ lackB
  cases h : l.findIdx? (fun x => !decide (n ∈ sel b x)) with
  | none =>
    rw [List.findIdx?_eq_none_iff] at h
    have : (l.any fun x => !decide (n ∈ sel b x)) = false := by
      rw [List.any_eq_false]; intro x hx; simp [h x hx]
    rw [this]; simp
  | some i =>
    rw [List.findIdx?_eq_some_iff_getElem] at h
    obtain ⟨h1, h2, _⟩ := h
    have : (l.any fun x => !decide (n ∈ sel b x)) = true := by
      rw [List.any_eq_true]; exact ⟨l[i], List.getElem_mem _, h2⟩
    rw [this]; simp
abbrev lackIS : PSpec := { dom := List Ex1 × Bool × Int, enc := fun d => [.sl 2 (d.1.map exR), .fn 94 [capF d.2.1, cellp d.2.2]], dec := fun l => ((l.getD 0 .top).toExs, ((l.getD 1 .top).caps.getD 0 .top).peek.fnNo == 71, ((l.getD 1 .top).caps.getD 1 .top).peek.toInt), pre := fun d => d.1.length ≤ 1000000 ∧ ∀ x ∈ d.1, x.1.length ≤ 1000000 ∧ x.2.length ≤ 1000000, res := fun d => .int .i64 (lacksZ d.1 d.2.1 d.2.2) }
noncomputable abbrev E101 : Env := { P := Try.prog, fn := tbl [(94, .pure lacksS)], own := [], key := 10100, nt := 19 }
theorem b101 : PureBody E101 [] Try.f101 lackIS := by
  refine pb ?_
  rintro ⟨l, b, n⟩ ⟨p1, p2⟩
  simp only at p1 p2
  have hb : (selF b == 71) = b := by cases b <;> rfl
  simp -dsimp [Try.f101, E101]
  refine awp_loop [9, 10, 5, 11, 12, 13, 14, 15, 16, 17, 4, 18, 8] (fun k : { k : Nat // k ≤ l.length ∧ ∀ j (h : j < l.length), j < k → n ∈ sel b l[j] } => [(8, (true, .int .i64 (k.1 : Nat)))]) (fun _ => noH) (fun k => l.length - k.1) ⟨0, by omega, fun _ _ h => by omega⟩ ?_ (HLe.refl _) ?_
  · simp [okAll, okv]
  rintro ⟨k, hk, hc⟩
  simp only
  by_cases hk1 : k < l.length
  case neg =>
    have hf := lacksZ_none l b n (fun j hj => hc j hj (by omega))
    simp -dsimp [hk1]
    repeat' (first | omega | (simp -dsimp [E101, ri, cellp, ints, hk1, hf]) | (refine Also.intro ?_ fun _ => ?_) | (refine Hold.intro fun _ => ?_) | (refine And.intro ?_ ?_))
  have w1 : IntKind.wrap .i64 ((k : Int) + 1) = (k + 1 : Nat) := wrap_id (by omega) (by omega)
  have hp := p2 l[k] (List.getElem_mem hk1)
  have hat := lacksZ_at l b n hk1
  by_cases hx : n ∈ sel b l[k]
  · generalize hxe : l[k] = x at *
    obtain ⟨x1, x2⟩ := x
    simp only at hp
    simp -dsimp [hk1, hxe, exR]
    repeat' (first | omega | (simp -dsimp [E101, ri, cellp, ints, hk1, hxe, exR, exV, capF, cellp, hb, V.toEx, V.fnNo, hp, hx, w1]) | (refine Also.intro ?_ fun _ => ?_) | (refine Hold.intro fun _ => ?_) | (refine And.intro ?_ ?_))
    refine ⟨k + 1, tle_chain rfl ?_, HLe.refl _, ⟨hk1, fun j hj h => ?_⟩, by omega⟩
    · simp [okAll, okv]
    · by_cases e : j = k
      · subst e; rw [hxe]; exact hx
      · exact hc j hj (by omega)
  · have hat := hat hx hc
    generalize hxe : l[k] = x at *
    obtain ⟨x1, x2⟩ := x
    simp only at hp
    simp -dsimp [hk1, hxe, exR]
    repeat' (first | omega | (simp -dsimp [E101, ri, cellp, ints, hk1, hxe, exR, exV, capF, cellp, hb, V.toEx, V.fnNo, hp, hx, hat]) | (refine Also.intro ?_ fun _ => ?_) | (refine Hold.intro fun _ => ?_) | (refine And.intro ?_ ?_))
theorem ok101 : FnOK Try.prog 101 (.pure lackIS) := pure_fn (E := E101) rfl (.cons ok94 .nil) (ok := []) (fn := Try.f101) (by kernel_rfl) (by kernel_rfl) (by kernel_rfl) (by kernel_rfl) rfl (fun _ _ => by simp) b101
abbrev lackAS : PSpec := { lackIS with res := fun d => .bool (lackB d.1 d.2.1 d.2.2) }
noncomputable abbrev E93 : Env := { P := Try.prog, fn := tbl [(101, .pure lackIS)], own := [], key := 9300, nt := 9 }
theorem b93 : PureBody E93 [] Try.f93 lackAS := by
  refine pb ?_
  rintro ⟨l, b, n⟩ ⟨p1, p2⟩
  simp only at p1 p2
  have hb : (selF b == 71) = b := by cases b <;> rfl
  have hm := lacksZ_any l b n
  have p2' : ∀ a c, (a, c) ∈ l → a.length ≤ 1000000 ∧ c.length ≤ 1000000 := fun a c h => p2 _ h
  simp -dsimp [Try.f93, E93]
  repeat' (first | omega | (simp -dsimp [E93, ri, cellp, ints, capF, cellp, hb, V.fnNo, p1, p2', hm]) | (refine Also.intro ?_ fun _ => ?_) | (refine Hold.intro fun _ => ?_) | (refine And.intro ?_ ?_))
theorem ok93 : FnOK Try.prog 93 (.pure lackAS) := pure_fn (E := E93) rfl (.cons ok101 .nil) (ok := []) (fn := Try.f93) (by kernel_rfl) (by kernel_rfl) (by kernel_rfl) (by kernel_rfl) rfl (fun _ _ => by simp) b93
end Go.Sx

