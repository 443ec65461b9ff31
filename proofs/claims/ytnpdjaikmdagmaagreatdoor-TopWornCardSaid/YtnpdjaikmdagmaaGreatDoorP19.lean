/- A part of a proof; no conditions. -/
import Derived.Test.YtnpdjaikmdagmaaGreatDoorP18
import Derived.Test.YtnpdjaikmdagmaaGreatDoorP17
set_option linter.unusedSimpArgs false
set_option linter.unusedVariables false
set_option linter.unusedSectionVars false
section
/- Changed (health). No conditions. -/
set_option linter.unusedSimpArgs false
set_option linter.unusedSectionVars false
set_option maxRecDepth 100000
section
namespace Go.Sx.Ch
open Go.Proofs
abbrev outS : PSpec := { dom := Int × Int × Int, enc := fun d => [.int .i64 d.1, cellp d.2.1, cellp d.2.2], dec := fun l => ((l.getD 0 .top).toInt, (l.getD 1 .top).peek.toInt, (l.getD 2 .top).peek.toInt), pre := fun _ => True, res := fun d => .bool (!withinB d.1 d.2.1 d.2.2) }
noncomputable abbrev E79 : Env := { P := Tryz.prog, fn := tbl [(17, .pure withinS)], own := [], key := 7900, nt := 10 }
theorem b79 : PureBody E79 [] Tryz.f79 outS := by
  refine pb ?_
  rintro ⟨n, lo, hi⟩ _
  simp -dsimp [Tryz.f79, E79, cellp]
theorem ok79 : FnOK Tryz.prog 79 (.pure outS) := pure_fn (E := E79) rfl (.cons ok17 .nil) (ok := []) (fn := Tryz.f79) (by kernel_rfl) (by kernel_rfl) (by kernel_rfl) (by kernel_rfl) rfl (fun _ _ => by simp) b79
def idxZ (l : List Int) (p : Int → Bool) : Int := match l.findIdx? p with | some i => i | none => -1
theorem idxZ_at (l : List Int) (p : Int → Bool) {k : Nat} (hk : k < l.length) (hp : p l[k] = true) (h : ∀ j (hj : j < l.length), j < k → p l[j] = false) : idxZ l p = k := by
  have : l.findIdx? p = some k := by
    rw [List.findIdx?_eq_some_iff_getElem]
    exact ⟨hk, hp, fun j hj => by simp [h j (by omega) hj]⟩
  simp [idxZ, this]
theorem idxZ_none (l : List Int) (p : Int → Bool) (h : ∀ j (hj : j < l.length), p l[j] = false) : idxZ l p = -1 := by
  have : l.findIdx? p = none := by
    rw [List.findIdx?_eq_none_iff]
    intro x hx
    obtain ⟨j, hj, rfl⟩ := List.getElem_of_mem hx
    exact h j hj
  simp [idxZ, this]
abbrev idxOutS : PSpec := { dom := List Int × Int × Int, enc := fun d => [ints d.1, .fn 79 [cellp d.2.1, cellp d.2.2]], dec := fun l => ((l.getD 0 .top).toInts, ((l.getD 1 .top).caps.getD 0 .top).peek.toInt, ((l.getD 1 .top).caps.getD 1 .top).peek.toInt), pre := fun d => d.1.length ≤ 9223372036854775807, res := fun d => .int .i64 (idxZ d.1 fun n => !withinB n d.2.1 d.2.2) }
noncomputable abbrev E128 : Env := { P := Tryz.prog, fn := tbl [(79, .pure outS)], own := [], key := 12800, nt := 19 }
theorem b128 : PureBody E128 [] Tryz.f128 idxOutS := by
  refine pb ?_
  rintro ⟨l, lo, hi⟩ hl
  simp -dsimp [Tryz.f128, E128, cellp, ints]
  refine awp_loop [9, 10, 5, 11, 12, 13, 14, 15, 16, 17, 4, 18, 8] (fun k : { k : Nat // k ≤ l.length ∧ ∀ j (h : j < l.length), j < k → withinB l[j] lo hi = true } => [(8, (true, .int .i64 k.1))]) (fun _ => noH) (fun k => l.length - k.1) ⟨0, by omega, fun _ _ h => by omega⟩ ?_ (HLe.refl _) ?_
  · simp [okAll, okv]
  rintro ⟨k, hk, hall⟩
  simp -dsimp [ri]
  repeat' (first | omega | (simp -dsimp [ri, cellp, *]) | (refine Also.intro ?_ fun _ => ?_) | (refine Hold.intro fun _ => ?_) | (refine And.intro ?_ ?_))
  · rename_i h1 h2
    exact (idxZ_at l _ h1 (by simp [h2]) (fun j h hj => by simp [hall j h hj])).symm
  · rename_i h1 h2
    refine ⟨k + 1, tle_chain rfl ?_, HLe.refl _, ⟨by omega, fun j h hj => ?_⟩, by omega⟩
    · simp [okAll, okv]
      exact wrap_id (by omega) (by simp at hl; omega)
    · by_cases hjk : j = k
      · subst hjk; exact h2
      · exact hall j h (by omega)
  · exact (idxZ_none l _ (fun j h => by simp [hall j h (by omega)])).symm
theorem ok128 : FnOK Tryz.prog 128 (.pure idxOutS) := pure_fn (E := E128) rfl (.cons ok79 .nil) (ok := []) (fn := Tryz.f128) (by kernel_rfl) (by kernel_rfl) (by kernel_rfl) (by kernel_rfl) rfl (fun _ _ => by simp) b128
theorem idxZ_any (l : List Int) (p : Int → Bool) : decide (0 ≤ idxZ l p) = l.any p := by
  unfold idxZ
  cases h : l.findIdx? p with
  | none => rw [List.findIdx?_eq_none_iff] at h; simp; exact fun x hx => by simpa using h x hx
  | some i =>
    have : l.any p = true := by
      rw [List.findIdx?_eq_some_iff_getElem] at h
      obtain ⟨h1, h2, _⟩ := h
      exact List.any_eq_true.2 ⟨_, List.getElem_mem h1, h2⟩
    simp [this]
abbrev anyOutS : PSpec := { idxOutS with res := fun d => .bool (d.1.any fun n => !withinB n d.2.1 d.2.2) }
noncomputable abbrev E78 : Env := { P := Tryz.prog, fn := tbl [(128, .pure idxOutS)], own := [], key := 7800, nt := 9 }
theorem b78 : PureBody E78 [] Tryz.f78 anyOutS := by
  refine pb ?_
  rintro ⟨l, lo, hi⟩ hl
  simp only at hl
  simp -dsimp [Tryz.f78, E78, cellp, ints, hl]
  exact idxZ_any l _
theorem ok78 : FnOK Tryz.prog 78 (.pure anyOutS) := pure_fn (E := E78) rfl (.cons ok128 .nil) (ok := []) (fn := Tryz.f78) (by kernel_rfl) (by kernel_rfl) (by kernel_rfl) (by kernel_rfl) rfl (fun _ _ => by simp) b78
def allB (l : List Int) (lo hi : Int) : Bool := l.all fun n => withinB n lo hi
abbrev allS : PSpec := { dom := List Int × Int × Int, enc := fun d => [ints d.1, .int .i64 d.2.1, .int .i64 d.2.2], dec := fun l => ((l.getD 0 .top).toInts, (l.getD 1 .top).toInt, (l.getD 2 .top).toInt), pre := fun d => d.1.length ≤ 9223372036854775807, res := fun d => .bool (allB d.1 d.2.1 d.2.2) }
noncomputable abbrev E47 : Env := { P := Tryz.prog, fn := tbl [(78, .pure anyOutS)], own := [], key := 4700, nt := 11 }
theorem b47 : PureBody E47 [] Tryz.f47 allS := by
  refine pb ?_
  rintro ⟨l, lo, hi⟩ hl
  simp only at hl
  simp -dsimp [Tryz.f47, E47, cellp, ints, hl]
  simp [allB, List.not_all_eq_any_not]
theorem ok47 : FnOK Tryz.prog 47 (.pure allS) := pure_fn (E := E47) rfl (.cons ok78 .nil) (ok := []) (fn := Tryz.f47) (by kernel_rfl) (by kernel_rfl) (by kernel_rfl) (by kernel_rfl) rfl (fun _ _ => by simp) b47
end Go.Sx.Ch
end
section
namespace Go.Sx.Ch
open Go.Proofs
set_option maxHeartbeats 1000000
theorem mul_abs {a b m n : Int} (h1 : -m ≤ a) (h2 : a ≤ m) (h3 : -n ≤ b) (h4 : b ≤ n) : -(m * n) ≤ a * b ∧ a * b ≤ m * n := by
  have hm : 0 ≤ m := by omega
  have hn : 0 ≤ n := by omega
  have e1 : a.natAbs ≤ m.toNat := by omega
  have e2 : b.natAbs ≤ n.toNat := by omega
  have h := Nat.mul_le_mul e1 e2
  rw [← Int.natAbs_mul] at h
  have e3 : ((m.toNat * n.toNat : Nat) : Int) = m * n := by rw [Int.natCast_mul, Int.toNat_of_nonneg hm, Int.toNat_of_nonneg hn]
  omega
def idxP (p : Nat → Bool) (n : Nat) : Int := match (List.range n).find? p with | some i => i | none => -1
theorem idxP_at {p : Nat → Bool} {n k : Nat} (hk : k < n) (hp : p k = true) (h : ∀ j, j < k → p j = false) : idxP p n = k := by
  have : (List.range n).find? p = some k := by
    rw [List.find?_range_eq_some]
    exact ⟨hp, by simpa using hk, fun j hj => by simp [h j hj]⟩
  simp [idxP, this]
theorem idxP_none {p : Nat → Bool} {n : Nat} (h : ∀ j, j < n → p j = false) : idxP p n = -1 := by
  have : (List.range n).find? p = none := by
    rw [List.find?_range_eq_none]
    intro j hj; simp [h j hj]
  simp [idxP, this]
end Go.Sx.Ch
end
section
namespace Go.Sx.Ch
open Go.Proofs
set_option maxHeartbeats 1000000
def lvRow (t : List (List Int)) (r : List Int) : Bool := r.length != (t.getD 0 []).length || !withinB r.length 1 12 || !allB r 0 1000000
abbrev lvRowS : PSpec := { dom := List Int × List (List Int), enc := fun d => [ints d.1, .ip 1 [[tabV d.2]] 0 0], dec := fun l => ((l.getD 0 .top).toInts, (l.getD 1 .top).peek.toLists), pre := fun d => d.2 ≠ [] ∧ d.1.length ≤ 9223372036854775807, res := fun d => .bool (lvRow d.2 d.1) }
noncomputable abbrev E46 : Env := { P := Tryz.prog, fn := tbl [(17, .pure withinS), (47, .pure allS)], own := [], key := 4600, nt := 22 }
theorem b46 : PureBody E46 [] Tryz.f46 lvRowS := by
  refine pb ?_
  rintro ⟨r, t⟩ ⟨hne, hrl⟩
  simp only at hne hrl
  cases t with
  | nil => exact absurd rfl hne
  | cons t0 ts =>
  by_cases h1 : r.length = t0.length
  · have h1' : (r.length : Int) = t0.length := by omega
    by_cases h2 : withinB r.length 1 12 = true
    · have htl : t0.length ≤ 9223372036854775807 := by omega
      simp -dsimp [Tryz.f46, E46, ints, tabV, rl, h1', h2]
      repeat' (first | omega | (simp -dsimp [E46, ri, cellp, ints, h1', h1, h2, hrl, htl, tabV, rl, lvRow]) | (refine Also.intro ?_ fun _ => ?_) | (refine Hold.intro fun _ => ?_) | (refine And.intro ?_ ?_))
      all_goals (rw [← h1', h2]; simp)
    · have h2' : withinB r.length 1 12 = false := by simpa using h2
      simp -dsimp [Tryz.f46, E46, ints, tabV, rl, h1', h2']
      repeat' (first | omega | (simp -dsimp [E46, ri, cellp, ints, h1', h1, h2', tabV, rl, lvRow]) | (refine Also.intro ?_ fun _ => ?_) | (refine Hold.intro fun _ => ?_) | (refine And.intro ?_ ?_))
      all_goals (rw [← h1', h2']; simp)
  · have h1' : ¬ (r.length : Int) = t0.length := by omega
    simp -dsimp [Tryz.f46, E46, ints, tabV, rl, h1']
    repeat' (first | omega | (simp -dsimp [E46, ri, cellp, ints, h1', h1, tabV, rl, lvRow]) | (refine Also.intro ?_ fun _ => ?_) | (refine Hold.intro fun _ => ?_) | (refine And.intro ?_ ?_))
theorem ok46 : FnOK Tryz.prog 46 (.pure lvRowS) := pure_fn (E := E46) rfl (.cons ok17 (.cons ok47 .nil)) (ok := []) (fn := Tryz.f46) (by kernel_rfl) (by kernel_rfl) (by kernel_rfl) (by kernel_rfl) rfl (fun _ _ => by simp) b46
def lvIdx (t l : List (List Int)) : Int := idxP (fun i => lvRow t (l.getD i [])) l.length
abbrev idxLvS : PSpec := { dom := List (List Int) × List (List Int), enc := fun d => [tabV d.1, .fn 46 [.ip 1 [[tabV d.2]] 0 0]], dec := fun l => ((l.getD 0 .top).toLists, ((l.getD 1 .top).caps.getD 0 .top).peek.toLists), pre := fun d => d.1.length ≤ 9223372036854775807 ∧ (d.1 ≠ [] → d.2 ≠ []) ∧ ∀ r ∈ d.1, r.length ≤ 9223372036854775807, res := fun d => .int .i64 (lvIdx d.2 d.1) }
noncomputable abbrev E77 : Env := { P := Tryz.prog, fn := tbl [(46, .pure lvRowS)], own := [], key := 7700, nt := 19 }
theorem b77 : PureBody E77 [] Tryz.f77 idxLvS := by
  refine pb ?_
  rintro ⟨l, t⟩ ⟨p1, p2, p3⟩
  simp only at p1 p2 p3
  simp -dsimp [Tryz.f77, E77, tabV]
  refine awp_loop [9, 10, 5, 11, 12, 13, 14, 15, 16, 17, 4, 18, 8] (fun k : { k : Nat // k ≤ l.length ∧ ∀ j, j < k → lvRow t (l.getD j []) = false } => [(8, (true, .int .i64 (k.1 : Nat)))]) (fun _ => noH) (fun k => l.length - k.1) ⟨0, by omega, fun _ h => by omega⟩ ?_ (HLe.refl _) ?_
  · simp [okAll, okv]
  rintro ⟨k, hk, he⟩
  simp only
  by_cases hk1 : k < l.length
  case neg =>
    have hke : k = l.length := by omega
    subst hke
    have : lvIdx t l = -1 := idxP_none he
    simp -dsimp [this]
    repeat' (first | omega | (simp -dsimp [E77, ri, cellp, ints, this]) | (refine Also.intro ?_ fun _ => ?_) | (refine Hold.intro fun _ => ?_) | (refine And.intro ?_ ?_))
  have hne : t ≠ [] := p2 (by intro e; subst e; simp at hk1)
  have hrl := p3 l[k] (List.getElem_mem hk1)
  have w1 : IntKind.wrap .i64 ((k : Int) + 1) = (k + 1 : Nat) := wrap_id (by omega) (by omega)
  have eG : l.getD k [] = l[k] := by simp [List.getD, List.getElem?_eq_getElem hk1]
  have eL : V.toLists (.sl 1 (t.map rl)) = t := toLists_rl t
  by_cases hc : lvRow t l[k] = true
  · have hi : lvIdx t l = k := idxP_at (p := fun i => lvRow t (l.getD i [])) hk1 (by simp only [eG, hc]) he
    simp -dsimp [hk1, rl, hc]
    repeat' (first | omega | (simp -dsimp [E77, ri, cellp, ints, hk1, rl, hc, hne, hrl, tabV, eL, hi]) | (refine Also.intro ?_ fun _ => ?_) | (refine Hold.intro fun _ => ?_) | (refine And.intro ?_ ?_))
  · have hc' : lvRow t l[k] = false := by simpa using hc
    simp -dsimp [hk1, rl, hc']
    repeat' (first | omega | (simp -dsimp [E77, ri, cellp, ints, hk1, rl, hc', hne, hrl, tabV, eL, w1]) | (refine Also.intro ?_ fun _ => ?_) | (refine Hold.intro fun _ => ?_) | (refine And.intro ?_ ?_))
    refine ⟨k + 1, tle_chain rfl ?_, HLe.refl _, ⟨hk1, fun j hj => ?_⟩, by omega⟩
    · simp [okAll, okv]
    · by_cases e : j = k
      · subst e; show lvRow t (l.getD j []) = false; rw [eG]; exact hc'
      · exact he j (by omega)
theorem ok77 : FnOK Tryz.prog 77 (.pure idxLvS) := pure_fn (E := E77) rfl (.cons ok46 .nil) (ok := []) (fn := Tryz.f77) (by kernel_rfl) (by kernel_rfl) (by kernel_rfl) (by kernel_rfl) rfl (fun _ _ => by simp) b77
theorem idxP_any (p : Nat → Bool) (n : Nat) : decide (0 ≤ idxP p n) = (List.range n).any p := by
  unfold idxP
  cases h : (List.range n).find? p with
  | none =>
    rw [List.find?_eq_none] at h
    simp; intro x hx; simpa using h x (by simpa using hx)
  | some i =>
    have h1 := List.find?_some h
    have h2 := List.mem_of_find?_eq_some h
    have : (List.range n).any p = true := List.any_eq_true.2 ⟨i, h2, h1⟩
    simp [this]
theorem range_any {α : Type} (l : List α) (d : α) (p : α → Bool) : (List.range l.length).any (fun i => p (l.getD i d)) = l.any p := by
  apply Bool.eq_iff_iff.2
  simp only [List.any_eq_true, List.mem_range]
  constructor
  · rintro ⟨i, hi, hp⟩
    rw [List.getD, List.getElem?_eq_getElem hi] at hp
    exact ⟨l[i], List.getElem_mem hi, hp⟩
  · rintro ⟨x, hx, hp⟩
    obtain ⟨i, hi, rfl⟩ := List.getElem_of_mem hx
    exact ⟨i, hi, by rw [List.getD, List.getElem?_eq_getElem hi]; exact hp⟩
abbrev anyLvS : PSpec := { idxLvS with res := fun d => .bool (d.1.any (lvRow d.2)) }
noncomputable abbrev E45 : Env := { P := Tryz.prog, fn := tbl [(77, .pure idxLvS)], own := [], key := 4500, nt := 9 }
theorem b45 : PureBody E45 [] Tryz.f45 anyLvS := by
  refine pb ?_
  rintro ⟨l, t⟩ hp
  have hp := hp
  have eL : V.toLists (.sl 1 (t.map rl)) = t := toLists_rl t
  have eM : V.toLists (.sl 1 (l.map rl)) = l := toLists_rl l
  obtain ⟨p1, p2, p3⟩ := hp
  simp only at p1 p2 p3
  have hx : decide (0 ≤ lvIdx t l) = l.any (lvRow t) := (idxP_any (fun i => lvRow t (l.getD i [])) l.length).trans (range_any l [] (lvRow t))
  simp -dsimp [Tryz.f45, E45, tabV, eL, eM, p1]
  repeat' (first | omega | (simp -dsimp [E45, ri, cellp, ints, tabV, eL, eM, p1, hx]) | (refine Also.intro ?_ fun _ => ?_) | (refine Hold.intro fun _ => ?_) | (refine And.intro ?_ ?_))
  all_goals first | exact p2 | exact p3 | exact hx | exact ⟨p2, p3⟩ | (simpa using p2)
theorem ok45 : FnOK Tryz.prog 45 (.pure anyLvS) := pure_fn (E := E45) rfl (.cons ok77 .nil) (ok := []) (fn := Tryz.f45) (by kernel_rfl) (by kernel_rfl) (by kernel_rfl) (by kernel_rfl) rfl (fun _ _ => by simp) b45
def tabB (t : List (List Int)) : Bool := withinB t.length 1 8 && !t.any (lvRow t)
def tabPre (t : List (List Int)) : Prop := t.length ≤ 9223372036854775807 ∧ ∀ r ∈ t, r.length ≤ 9223372036854775807
abbrev tabS : PSpec := { dom := List (List Int), enc := fun d => [tabV d], dec := fun l => (l.getD 0 .top).toLists, pre := tabPre, res := fun d => .bool (tabB d) }
noncomputable abbrev E16 : Env := { P := Tryz.prog, fn := tbl [(17, .pure withinS), (45, .pure anyLvS)], own := [], key := 1600, nt := 12 }
theorem b16 : PureBody E16 [] Tryz.f16 tabS := by
  refine pb ?_
  rintro t ⟨p1, p2⟩
  have eL : V.toLists (.sl 1 (t.map rl)) = t := toLists_rl t
  by_cases h1 : withinB t.length 1 8 = true
  · simp -dsimp [Tryz.f16, E16, tabV, h1]
    repeat' (first | omega | (simp -dsimp [E16, ri, cellp, ints, tabV, eL, h1, p1, p2, tabB]) | (refine Also.intro ?_ fun _ => ?_) | (refine Hold.intro fun _ => ?_) | (refine And.intro ?_ ?_))
    all_goals first | exact p2 | exact fun h => h | (exact ⟨fun h => h, p2⟩)
  · have h1' : withinB t.length 1 8 = false := by simpa using h1
    simp -dsimp [Tryz.f16, E16, tabV, h1']
    repeat' (first | omega | (simp -dsimp [E16, ri, cellp, ints, tabV, eL, h1', p1, tabB]) | (refine Also.intro ?_ fun _ => ?_) | (refine Hold.intro fun _ => ?_) | (refine And.intro ?_ ?_))
theorem ok16 : FnOK Tryz.prog 16 (.pure tabS) := pure_fn (E := E16) rfl (.cons ok17 (.cons ok45 .nil)) (ok := []) (fn := Tryz.f16) (by kernel_rfl) (by kernel_rfl) (by kernel_rfl) (by kernel_rfl) rfl (fun _ _ => by simp) b16
def hitC (b n : List (List Int)) (p : Int) (s g : Nat) : Bool :=
  let was := (b.getD s []).getD g 0
  let d := (n.getD s []).getD g 0 - was
  decide (p * was < (if -d > d then -d else d) * 100)
def rowH (b n : List (List Int)) (p : Int) (s g : Nat) : List (Int × Int) := ((List.range g).filter (hitC b n p s)).map fun g : Nat => ((s : Int), (g : Int))
def chTo (b n : List (List Int)) (p : Int) (s : Nat) : List (Int × Int) := (List.range s).flatMap fun s => rowH b n p s (b.getD s []).length
theorem chTo_succ (b n : List (List Int)) (p : Int) (s : Nat) : chTo b n p (s + 1) = chTo b n p s ++ rowH b n p s (b.getD s []).length := by
  simp [chTo, List.range_succ]
theorem rowH_succ (b n : List (List Int)) (p : Int) (s g : Nat) : rowH b n p s (g + 1) = rowH b n p s g ++ if hitC b n p s g then [((s : Int), (g : Int))] else [] := by
  simp only [rowH, List.range_succ, List.filter_append, List.map_append, List.filter_cons, List.filter_nil]
  split <;> simp
theorem rowH_len (b n : List (List Int)) (p : Int) (s g : Nat) : (rowH b n p s g).length ≤ g := by
  have := List.length_filter_le (hitC b n p s) (List.range g)
  simpa [rowH] using this
theorem tab_facts {t : List (List Int)} (h : tabB t = true) : 1 ≤ t.length ∧ t.length ≤ 8 ∧ ∀ r ∈ t, r.length = (t.getD 0 []).length ∧ 1 ≤ r.length ∧ r.length ≤ 12 ∧ ∀ x ∈ r, 0 ≤ x ∧ x ≤ 1000000 := by
  simp only [tabB, Bool.and_eq_true, withinB, decide_eq_true_eq, Bool.not_eq_true', List.any_eq_false] at h
  refine ⟨by omega, by omega, fun r hr => ?_⟩
  have := h.2 r hr
  simp only [lvRow, Bool.or_eq_true, not_or, Bool.not_eq_true', bne_iff_ne, ne_eq, Decidable.not_not, Bool.not_eq_false, withinB, decide_eq_true_eq, allB, List.all_eq_true] at this
  obtain ⟨⟨a1, a2⟩, a3⟩ := this
  exact ⟨a1, by omega, by omega, a3⟩
theorem chTo_len {b n : List (List Int)} {p : Int} (h : ∀ r ∈ b, r.length ≤ 12) : ∀ s, s ≤ b.length → (chTo b n p s).length ≤ 12 * s := by
  intro s
  induction s with
  | zero => intro _; simp [chTo]
  | succ s ih =>
    intro hs
    have h1 := rowH_len b n p s (b.getD s []).length
    have h2 : (b.getD s []).length ≤ 12 := by
      rw [List.getD, List.getElem?_eq_getElem (by omega : s < b.length)]
      exact h _ (List.getElem_mem _)
    rw [chTo_succ, List.length_append]
    have := ih (by omega)
    omega
def chR (b n : List (List Int)) (p : Int) : List (Int × Int) × Int :=
  if tabB b && tabB n && b.length == n.length && (b.getD 0 []).length == (n.getD 0 []).length then if withinB p 0 10000 then (chTo b n p b.length, 0) else ([], 1) else ([], 81)
abbrev chS : PSpec := { dom := List (List Int) × List (List Int) × Int, enc := fun d => [tabV d.1, tabV d.2.1, .int .i64 d.2.2], dec := fun l => ((l.getD 0 .top).toLists, (l.getD 1 .top).toLists, (l.getD 2 .top).toInt), pre := fun d => tabPre d.1 ∧ tabPre d.2.1, res := fun d => .tup [.sl 2 ((chR d.1 d.2.1 d.2.2).1.map cycV), .int .i64 (chR d.1 d.2.1 d.2.2).2] }
noncomputable abbrev E6 : Env := { P := Tryz.prog, fn := tbl [(16, .pure tabS), (17, .pure withinS)], own := [], key := 600, nt := 83 }
theorem b6 : PureBody E6 [] Tryz.f6 chS := by
  refine pb ?_
  rintro ⟨b, n, p⟩ ⟨⟨u1, u2⟩, ⟨u3, u4⟩⟩
  simp only at u1 u2 u3 u4
  have eB : V.toLists (.sl 1 (b.map rl)) = b := toLists_rl b
  have eN : V.toLists (.sl 1 (n.map rl)) = n := toLists_rl n
  by_cases q1 : tabB b = true
  case neg =>
    have q1' : tabB b = false := by simpa using q1
    simp -dsimp [Tryz.f6, E6, tabV, eB, q1', u1, chR]
    repeat' (first | omega | (simp -dsimp [E6, ri, cellp, ints, tabV, eB, q1', u1, tabPre, chR]) | (refine Also.intro ?_ fun _ => ?_) | (refine Hold.intro fun _ => ?_) | (refine And.intro ?_ ?_))
    all_goals exact u2
  by_cases q2 : tabB n = true
  case neg =>
    have q2' : tabB n = false := by simpa using q2
    simp -dsimp [Tryz.f6, E6, tabV, eB, eN, q1, q2', u1, u3, chR]
    repeat' (first | omega | (simp -dsimp [E6, ri, cellp, ints, tabV, eB, eN, q1, q2', u1, u3, tabPre, chR]) | (refine Also.intro ?_ fun _ => ?_) | (refine Hold.intro fun _ => ?_) | (refine And.intro ?_ ?_))
    all_goals first | exact u2 | exact u4
  obtain ⟨f1, f2, f3⟩ := tab_facts q1
  obtain ⟨g1, g2, g3⟩ := tab_facts q2
  have hb0 : 0 < b.length := by omega
  have hn0 : 0 < n.length := by omega
  have eb0 : b[0]? = some b[0] := List.getElem?_eq_getElem hb0
  have en0 : n[0]? = some n[0] := List.getElem?_eq_getElem hn0
  have hb1 : ¬ b = [] := by intro e; subst e; simp at hb0
  have hn1 : ¬ n = [] := by intro e; subst e; simp at hn0
  have db0 : b.getD 0 [] = b[0] := by simp [List.getD, eb0]
  have dn0 : n.getD 0 [] = n[0] := by simp [List.getD, en0]
  rw [db0] at f3
  rw [dn0] at g3
  generalize hB0 : b[0] = b0 at *
  generalize hN0 : n[0] = n0 at *
  by_cases q3 : b.length = n.length
  case neg =>
    have q3' : ((b.length : Int) != n.length) = true := by simp; omega
    have q3b : (b.length == n.length) = false := by simpa using q3
    have hr : chR b n p = ([], 81) := by simp [chR, q3b]
    simp -dsimp [Tryz.f6, E6, tabV, eB, eN, q1, q2, q3', eb0, en0, hb1, hn1, hb0, hn0, hB0, hN0, rl, u1, u3, hr]
    repeat' (first | omega | (simp -dsimp [E6, ri, cellp, ints, tabV, eB, eN, q1, q2, q3', eb0, en0, hb1, hn1, hb0, hn0, hB0, hN0, rl, u1, u3, tabPre, hr]) | (refine Also.intro ?_ fun _ => ?_) | (refine Hold.intro fun _ => ?_) | (refine And.intro ?_ ?_))
    all_goals first | exact u2 | exact u4
  have q3' : ((b.length : Int) != n.length) = false := by simp; omega
  by_cases q4 : b0.length = n0.length
  case neg =>
    have q4' : ((b0.length : Int) != n0.length) = true := by simp; omega
    have q4b : (b0.length == n0.length) = false := by simpa using q4
    have hr : chR b n p = ([], 81) := by simp only [chR, db0, dn0, q4b]; simp
    simp -dsimp [Tryz.f6, E6, tabV, eB, eN, q1, q2, q3', q4', eb0, en0, hb1, hn1, hb0, hn0, hB0, hN0, rl, u1, u3, hr]
    repeat' (first | omega | (simp -dsimp [E6, ri, cellp, ints, tabV, eB, eN, q1, q2, q3', q4', eb0, en0, hb1, hn1, hb0, hn0, hB0, hN0, rl, u1, u3, tabPre, hr]) | (refine Also.intro ?_ fun _ => ?_) | (refine Hold.intro fun _ => ?_) | (refine And.intro ?_ ?_))
    all_goals first | exact u2 | exact u4
  have q4' : ((b0.length : Int) != n0.length) = false := by simp; omega
  by_cases q5 : withinB p 0 10000 = true
  case neg =>
    have q5' : withinB p 0 10000 = false := by simpa using q5
    have hr : chR b n p = ([], 1) := by simp only [chR, db0, dn0, q1, q2, q3, q4, q5']; simp
    simp -dsimp [Tryz.f6, E6, tabV, eB, eN, q1, q2, q3', q4', eb0, en0, hb1, hn1, hb0, hn0, hB0, hN0, rl, u1, u3]
    repeat' (first | omega | (simp -dsimp [E6, ri, cellp, ints, tabV, eB, eN, q1, q2, q3', q4', q5', eb0, en0, hb1, hn1, hb0, hn0, hB0, hN0, rl, u1, u3, tabPre, hr]) | (refine Also.intro ?_ fun _ => ?_) | (refine Hold.intro fun _ => ?_) | (refine And.intro ?_ ?_))
    all_goals first | exact u2 | exact u4
  have q5' : 0 ≤ p ∧ p ≤ 10000 := by simpa [withinB] using q5
  have hr : chR b n p = (chTo b n p b.length, 0) := by simp only [chR, db0, dn0, q1, q2, q3, q4, q5]; simp
  have hlen := chTo_len (b := b) (n := n) (p := p) (fun r hr => (f3 r hr).2.2.1)
  simp -dsimp [Tryz.f6, E6, tabV, eB, eN, q1, q2, q3', q4', eb0, en0, hb1, hn1, hb0, hn0, hB0, hN0, rl, u1, u3]
  repeat' (first | omega | (simp -dsimp [E6, ri, cellp, ints, tabV, eB, eN, q1, q2, q3', q4', q5, eb0, en0, hb1, hn1, hb0, hn0, hB0, hN0, rl, u1, u3, tabPre]) | (refine Also.intro ?_ fun _ => ?_) | (refine Hold.intro fun _ => ?_) | (refine And.intro ?_ ?_))
  refine awp_loop_g [(6, 2599, 2, 41)] rfl (by simp) [45, 46, 47, 48, 8, 9, 49, 50, 51, 52, 53, 54, 55, 10, 11, 56, 57, 58, 59, 60, 61, 62, 63, 64, 12, 65, 66, 67, 68, 69, 70, 71, 72, 73, 74, 75, 76, 77, 78, 79, 6, 80, 81, 44]
    (fun s : Fin (b.length + 1) => [(44, (true, .int .i64 (s.1 : Nat))), (6, (true, .bsl 2599 0 (chTo b n p s.1).length))])
    (fun s => hps [(2599, { base := 0, blks := [{ z := 2, els := (chTo b n p s.1).map cycV, ty := 41 }] })] noH) (fun s => b.length - s.1) ⟨0, by omega⟩ ?_ (by (try simp -dsimp only [hpush_noH, hpush_hps, hps_over]); refine hle_hps ?_; simp -dsimp [allK, chTo]; repeat' (first | (refine And.intro ?_ ?_) | (refine sLe.same ?_ ?_ <;> (simp; done)) | (refine sLe.clear ?_ ?_ <;> (simp; done)) | (refine sLe.drop 1 ?_ ?_ ?_ <;> (simp; done)))) ?_
  · simp [okAll, okv, chTo]
  rintro ⟨s, hs⟩
  simp only
  by_cases hs1 : s < b.length
  case neg =>
    have hse : s = b.length := by omega
    subst hse
    simp -dsimp [hr]
    repeat' (first | omega | (simp -dsimp [E6, ri, cellp, ints, hr]) | (refine Also.intro ?_ fun _ => ?_) | (refine Hold.intro fun _ => ?_) | (refine And.intro ?_ ?_))
  have hs2 : s < n.length := by omega
  have w1 : IntKind.wrap .i64 ((s : Int) + 1) = (s + 1 : Nat) := wrap_id (by omega) (by omega)
  have hsc := chTo_succ b n p s
  have eGb : b.getD s [] = b[s] := by simp [List.getD, List.getElem?_eq_getElem hs1]
  have eGn : n.getD s [] = n[s] := by simp [List.getD, List.getElem?_eq_getElem hs2]
  have hrb := f3 b[s] (List.getElem_mem hs1)
  have hrn := g3 n[s] (List.getElem_mem hs2)
  rw [eGb] at hsc
  have hls := hlen s (by omega)
  generalize hbs : b[s] = bs at *
  generalize hns : n[s] = ns at *
  have hlns : ns.length = bs.length := by omega
  simp -dsimp [hs1, hbs, rl]
  repeat' (first | omega | (simp -dsimp [E6, ri, cellp, ints, hs1, hbs, rl]) | (refine Also.intro ?_ fun _ => ?_) | (refine Hold.intro fun _ => ?_) | (refine And.intro ?_ ?_))
  refine awp_loop [52, 53, 54, 55, 10, 11, 56, 57, 58, 59, 60, 61, 62, 63, 64, 12, 65, 66, 67, 68, 69, 70, 71, 72, 73, 74, 75, 76, 77, 78, 79, 6, 80, 51]
    (fun g : Fin (bs.length + 1) => [(51, (true, .int .i64 (g.1 : Nat))), (6, (true, .bsl 2599 0 (chTo b n p s ++ rowH b n p s g.1).length))])
    (fun g => hps [(2599, { base := 0, blks := [{ z := 2, els := (chTo b n p s ++ rowH b n p s g.1).map cycV, ty := 41 }] })] noH) (fun g => bs.length - g.1) ⟨0, by omega⟩ ?_ (by (try simp -dsimp only [hpush_noH, hpush_hps, hps_over]); refine hle_hps ?_; simp -dsimp [allK, rowH]; repeat' (first | (refine And.intro ?_ ?_) | (refine sLe.same ?_ ?_ <;> (simp; done)) | (refine sLe.clear ?_ ?_ <;> (simp; done)) | (refine sLe.drop 1 ?_ ?_ ?_ <;> (simp; done)))) ?_
  · simp [okAll, okv, rowH]
  rintro ⟨g, hg⟩
  simp only
  by_cases hg1 : g < bs.length
  · have hg2 : g < ns.length := by omega
    have w2 : IntKind.wrap .i64 ((g : Int) + 1) = (g + 1 : Nat) := wrap_id (by omega) (by omega)
    have hrs := rowH_succ b n p s g
    have hrl := rowH_len b n p s g
    have xb := hrb.2.2.2 bs[g] (List.getElem_mem hg1)
    have xn := hrn.2.2.2 ns[g] (List.getElem_mem hg2)
    have egb : bs.getD g 0 = bs[g] := by simp [List.getD, List.getElem?_eq_getElem hg1]
    have egn : ns.getD g 0 = ns[g] := by simp [List.getD, List.getElem?_eq_getElem hg2]
    have hh : hitC b n p s g = decide (p * bs[g] < (if -(ns[g] - bs[g]) > ns[g] - bs[g] then -(ns[g] - bs[g]) else ns[g] - bs[g]) * 100) := by
      unfold hitC; rw [eGb, eGn, egb, egn]
    generalize hx : bs[g] = x at *
    generalize hy : ns[g] = y at *
    have hd : IntKind.wrap .i64 (y - x) = y - x := wrap_id (by omega) (by omega)
    have hnd : IntKind.wrap .i64 (-(y - x)) = x - y := by rw [wrap_id (by omega) (by omega)]; omega
    have hmp := mul_abs (a := p) (b := x) (m := 10000) (n := 1000000) (by omega) (by omega) (by omega) (by omega)
    have hpx : IntKind.wrap .i64 (p * x) = p * x := wrap_id (by omega) (by omega)
    obtain ⟨z, hz⟩ : ∃ z : Int, z = (if -(y - x) > y - x then -(y - x) else y - x) := ⟨_, rfl⟩
    have hz1 : 0 ≤ z ∧ z ≤ 1000000 := by rw [hz]; split <;> omega
    have hz2 : (if y - x < x - y then x - y else y - x) = z := by rw [hz]; split <;> split <;> omega
    have hzw : IntKind.wrap .i64 (z * 100) = z * 100 := wrap_id (by omega) (by omega)
    rw [← hz] at hh
    have hll : ((chTo b n p s).length + (rowH b n p s g).length + 1) * 16 ≤ 140737488355328 := by omega
    by_cases hc : p * x < z * 100
    · have ht : hitC b n p s g = true := by rw [hh]; simpa using hc
      rw [ht, if_pos rfl] at hrs
      simp -dsimp [hg1, hx, ri]
      repeat' (first | omega | (simp -dsimp [E6, ri, cellp, ints, hs2, hns, rl, hg2, hg1, hx, hy, hd, hnd, hpx, hz2, hzw, hc, hll, w2]) | (refine Also.intro ?_ fun _ => ?_) | (refine Hold.intro fun _ => ?_) | (refine And.intro ?_ ?_))
      refine ⟨⟨g + 1, by omega⟩, tle_chain rfl ?_, (by (try simp -dsimp only [hpush_noH, hpush_hps, hps_over]); refine hle_hps ?_; simp -dsimp [allK, hrs, cycV]; repeat' (first | (refine And.intro ?_ ?_) | (refine sLe.same ?_ ?_ <;> (simp; done)) | (refine sLe.clear ?_ ?_ <;> (simp; done)) | (refine sLe.drop 1 ?_ ?_ ?_ <;> (simp; done)))), by simp only; omega⟩
      simp [okAll, okv, hrs]
      try omega
    · have hf : hitC b n p s g = false := by rw [hh]; simpa using hc
      rw [hf] at hrs
      simp only [Bool.false_eq_true, if_false, List.append_nil] at hrs
      simp -dsimp [hg1, hx, ri]
      repeat' (first | omega | (simp -dsimp [E6, ri, cellp, ints, hs2, hns, rl, hg2, hg1, hx, hy, hd, hnd, hpx, hz2, hzw, hc, w2]) | (refine Also.intro ?_ fun _ => ?_) | (refine Hold.intro fun _ => ?_) | (refine And.intro ?_ ?_))
      refine ⟨⟨g + 1, by omega⟩, tle_chain rfl ?_, (by (try simp -dsimp only [hpush_noH, hpush_hps, hps_over]); refine hle_hps ?_; simp -dsimp [allK, hrs]; repeat' (first | (refine And.intro ?_ ?_) | (refine sLe.same ?_ ?_ <;> (simp; done)) | (refine sLe.clear ?_ ?_ <;> (simp; done)) | (refine sLe.drop 1 ?_ ?_ ?_ <;> (simp; done)))), by simp only; omega⟩
      simp [okAll, okv, hrs]
  have hge : g = bs.length := by omega
  subst hge
  simp -dsimp
  repeat' (first | omega | (simp -dsimp [E6, ri, cellp, ints, w1]) | (refine Also.intro ?_ fun _ => ?_) | (refine Hold.intro fun _ => ?_) | (refine And.intro ?_ ?_))
  refine ⟨⟨s + 1, by omega⟩, tle_kept (kept_upds rfl (kept_forget rfl (kept_upds rfl kept_base))) ?_, (by (try simp -dsimp only [hpush_noH, hpush_hps, hps_over]); refine hle_hps ?_; simp -dsimp [allK, hsc]; repeat' (first | (refine And.intro ?_ ?_) | (refine sLe.same ?_ ?_ <;> (simp; done)) | (refine sLe.clear ?_ ?_ <;> (simp; done)) | (refine sLe.drop 1 ?_ ?_ ?_ <;> (simp; done)))), by simp only; omega⟩
  simp [okAll, okv, hsc]
theorem ok6 : FnOK Tryz.prog 6 (.pure chS) := pure_fn (E := E6) rfl (.cons ok16 (.cons ok17 .nil)) (ok := []) (fn := Tryz.f6) (by kernel_rfl) (by kernel_rfl) (by kernel_rfl) (by kernel_rfl) rfl (fun _ _ => by simp) b6
end Go.Sx.Ch
end
end
section
/- What slices.Compact leaves of sorted ints. No conditions. -/
set_option linter.unusedSimpArgs false
namespace Go.Sx

/-- The first k numbers, each that is the one before it left out. -/
def cpTo (l : List Int) : Nat → List Int
  | 0 => []
  | k + 1 => if k = 0 ∨ l.getD k 0 ≠ l.getD (k - 1) 0 then cpTo l k ++ [l.getD k 0] else cpTo l k
theorem cpTo_len (l : List Int) : ∀ k, (cpTo l k).length ≤ k
  | 0 => by simp [cpTo]
  | k + 1 => by
    have := cpTo_len l k
    unfold cpTo; split
    · simp; omega
    · omega
theorem cpTo_all {l : List Int} : ∀ {k : Nat}, k ≤ l.length → (∀ j, 1 ≤ j → j < k → l.getD j 0 ≠ l.getD (j - 1) 0) → cpTo l k = l.take k
  | 0, _, _ => by simp [cpTo]
  | k + 1, hk, h => by
    have ih := cpTo_all (l := l) (k := k) (by omega) fun j h1 h2 => h j h1 (by omega)
    unfold cpTo
    rw [if_pos (by by_cases e : k = 0; exact .inl e; exact .inr (h k (by omega) (by omega))), ih, List.take_add_one]
    simp [List.getD, List.getElem?_eq_getElem (show k < l.length by omega)]
theorem cpTo_mem (l : List Int) (x : Int) : ∀ k, k ≤ l.length → (x ∈ cpTo l k ↔ ∃ j, j < k ∧ l.getD j 0 = x)
  | 0, _ => by simp [cpTo]
  | k + 1, hk => by
    have ih := cpTo_mem l x k (by omega)
    unfold cpTo
    split
    · rw [List.mem_append, ih, List.mem_singleton]
      constructor
      · rintro (⟨j, h1, h2⟩ | h)
        · exact ⟨j, by omega, h2⟩
        · exact ⟨k, by omega, h.symm⟩
      · rintro ⟨j, h1, h2⟩
        by_cases e : j = k
        · subst e; exact .inr h2.symm
        · exact .inl ⟨j, by omega, h2⟩
    · rename_i hn
      have hk0 : k ≠ 0 := fun e => hn (.inl e)
      have he : l.getD k 0 = l.getD (k - 1) 0 := Decidable.byContradiction fun e => hn (.inr e)
      rw [ih]
      constructor
      · rintro ⟨j, h1, h2⟩; exact ⟨j, by omega, h2⟩
      · rintro ⟨j, h1, h2⟩
        by_cases e : j = k
        · subst e; exact ⟨j - 1, by omega, by rw [← he]; exact h2⟩
        · exact ⟨j, by omega, h2⟩
/-- Of ascending numbers what is left is strictly ascending. -/
theorem cpTo_inc {l : List Int} (hs : l.Pairwise (· ≤ ·)) : ∀ k, k ≤ l.length → (cpTo l k).Pairwise (· < ·) ∧ ∀ x ∈ cpTo l k, x ≤ l.getD (k - 1) 0
  | 0, _ => by simp [cpTo]
  | k + 1, hk => by
    obtain ⟨h1, h2⟩ := cpTo_inc hs k (by omega)
    have hle : 0 < k → l.getD (k - 1) 0 ≤ l.getD k 0 := fun h0 => by
      have := List.pairwise_iff_getElem.1 hs (k - 1) k (by omega) (by omega) (by omega)
      simpa [List.getD, List.getElem?_eq_getElem (show k < l.length by omega), List.getElem?_eq_getElem (show k - 1 < l.length by omega)] using this
    have hz : k = 0 → cpTo l k = [] := fun e => by subst e; rfl
    unfold cpTo
    split
    · rename_i hc
      refine ⟨List.pairwise_append.2 ⟨h1, List.pairwise_singleton _ _, fun x hx y hy => ?_⟩, fun x hx => ?_⟩
      · rw [List.mem_singleton] at hy; subst hy
        by_cases e : k = 0
        · rw [hz e] at hx; simp at hx
        · have := h2 x hx; have := hle (by omega)
          rcases hc with hc | hc
          · exact absurd hc e
          · show x < l.getD k 0
            omega
      · rcases List.mem_append.1 hx with hx | hx
        · by_cases e : k = 0
          · rw [hz e] at hx; simp at hx
          · have := h2 x hx; have := hle (by omega); show x ≤ l.getD k 0; omega
        · rw [List.mem_singleton] at hx; subst hx; exact Int.le_refl _
    · rename_i hn
      have hk0 : k ≠ 0 := fun e => hn (.inl e)
      refine ⟨h1, fun x hx => ?_⟩
      have := h2 x hx; have := hle (by omega); show x ≤ l.getD k 0; omega
end Go.Sx
end
section
/- Parts: Suspects' own closure, its search, slices.Compact of an owned slice. No conditions. -/
set_option linter.unusedSimpArgs false
set_option linter.unusedSectionVars false
set_option maxRecDepth 100000
set_option maxHeartbeats 4000000
namespace Go.Sx
open Go.Proofs
attribute [local irreducible] HLe

structure SgD where
  x : HI
  a : Int
  b : Int
  deriving Inhabited
def hiC (x : HI) : V := .ip 1 [[x.v]] 0 0
theorem hiC_inj (a b : HI) (h : hiC a = hiC b) : a = b := HI.v_inj _ _ (by simpa [hiC] using h)
@[simp] def sgE (d : SgD) : List V := [.agg [.int .i64 d.a, .int .i64 d.b], hiC d.x]
theorem sgE_inj (x y : SgD) (h : sgE x = sgE y) : x = y := by
  obtain ⟨x, a, b⟩ := x; obtain ⟨x', a', b'⟩ := y
  simp only [sgE, List.cons.injEq, V.agg.injEq, V.int.injEq, true_and, and_true] at h
  rw [hiC_inj _ _ h.2, h.1.1, h.1.2]
theorem sgE_dec (x : HI) (a b : Int) : decC sgE [.agg [.int .i64 a, .int .i64 b], .ip 1 [[x.v]] 0 0] = ⟨x, a, b⟩ := decC_eq sgE_inj ⟨x, a, b⟩
def HI.badPl (x : HI) (p : Int × Int) : Bool := !withinB p.1 0 (wsub x.r.kinds.length 1) || !withinB p.2 0 (wsub (x.r.kinds.getD p.1.toNat default).places 1)
noncomputable abbrev sgS : PSpec := mkP sgE (fun d => d.x.r.kinds.length ≤ 9223372036854775807) fun d => .bool (d.x.badPl (d.a, d.b))
noncomputable abbrev E19 : Env := { P := Tryz.prog, fn := tbl [(20, .pure withinS)], own := [], key := 1900, nt := 32 }
theorem b19 : PureBody E19 [] Tryz.f19 sgS := by
  refine pb ?_
  rintro ⟨x, a, b⟩ hl
  have hl : x.r.kinds.length ≤ 9223372036854775807 := hl
  have hw : IntKind.wrap .i64 ((x.r.kinds.length : Int) - 1) = x.r.kinds.length - 1 := wrap_id (by omega) (by omega)
  cases h1 : withinB a 0 (x.r.kinds.length - 1)
  · simp -dsimp [Tryz.f19, E19, hiC, HI.v]
    repeat' (first | omega | (simp -dsimp [E19, ri, cellp, ints, hiC, HI.v, h1, hw, HI.badPl, wsub]) | (refine Also.intro ?_ fun _ => ?_) | (refine Hold.intro fun _ => ?_) | (refine And.intro ?_ ?_))
  · have ha : 0 ≤ a ∧ a ≤ x.r.kinds.length - 1 := by simpa [withinB] using h1
    obtain ⟨A, rfl⟩ : ∃ A : Nat, a = A := ⟨a.toNat, by omega⟩
    have hA : A < x.r.kinds.length := by omega
    obtain ⟨K, hK, hK'⟩ := get_ex hA
    have hAi : (A : Int) < x.r.kinds.length := by omega
    simp -dsimp [Tryz.f19, E19, hiC, HI.v]
    repeat' (first | omega | (simp -dsimp [E19, ri, cellp, ints, hiC, HI.v, h1, hw, hA, hAi, hK, hK', Kd.row, HI.badPl, wsub]) | (refine Also.intro ?_ fun _ => ?_) | (refine Hold.intro fun _ => ?_) | (refine And.intro ?_ ?_))
theorem ok19 : FnOK Tryz.prog 19 (.pure sgS) := pure_fn (E := E19) rfl (.cons ok20 .nil) (ok := []) (fn := Tryz.f19) (by kernel_rfl) (by kernel_rfl) (by kernel_rfl) (by kernel_rfl) rfl (fun _ _ => by simp) b19

structure SgL where
  x : HI
  l : List (Int × Int)
  deriving Inhabited
@[simp] def sgL (d : SgL) : List V := [.sl 2 (d.l.map cycV), .fn 19 [hiC d.x]]
theorem sgL_inj (x y : SgL) (h : sgL x = sgL y) : x = y := by
  obtain ⟨x, l⟩ := x; obtain ⟨x', l'⟩ := y
  simp only [sgL, List.cons.injEq, V.fn.injEq, V.sl.injEq, true_and, and_true] at h
  rw [hiC_inj _ _ h.2, cycV_inj h.1]
theorem sgL_dec (x : HI) (l : List (Int × Int)) : decC sgL [.sl 2 (l.map cycV), .fn 19 [.ip 1 [[x.v]] 0 0]] = ⟨x, l⟩ := decC_eq sgL_inj ⟨x, l⟩
structure SgP (d : SgL) : Prop where
  k : d.x.r.kinds.length ≤ 9223372036854775807
  n : d.l.length ≤ 9223372036854775807
noncomputable abbrev sgiS : PSpec := mkP sgL SgP fun d => .int .i64 (idxZ d.l d.x.badPl)
noncomputable abbrev sgaS : PSpec := mkP sgL SgP fun d => .bool (d.l.any d.x.badPl)
noncomputable abbrev E51 : Env := { P := Tryz.prog, fn := tbl [(19, .pure sgS)], own := [], key := 5100, nt := 19 }
theorem b51 : PureBody E51 [] Tryz.f51 sgiS := by
  refine pb ?_
  rintro ⟨x, l⟩ ⟨hk0, hl⟩
  simp only at hk0 hl
  simp -dsimp [Tryz.f51, E51, hiC]
  refine awp_loop [9, 10, 5, 11, 12, 13, 14, 15, 16, 17, 4, 18, 8] (fun k : { k : Nat // k ≤ l.length ∧ ∀ j (h : j < l.length), j < k → x.badPl l[j] = false } => [(8, (true, .int .i64 k.1))]) (fun _ => noH) (fun k => l.length - k.1) ⟨0, by omega, fun _ _ h => by omega⟩ ?_ (HLe.refl _) ?_
  · simp [okAll, okv]
  rintro ⟨k, hk, hall⟩
  by_cases hk1 : k < l.length
  · have hki : (k : Int) < l.length := by omega
    have wk : IntKind.wrap .i64 ((k : Int) + 1) = (k + 1 : Nat) := wrap_id (by omega) (by omega)
    obtain ⟨⟨a, b⟩, hg, hg'⟩ := get_ex hk1
    have hd := sgE_dec x a b
    cases hw : x.badPl (a, b)
    · simp -dsimp [hki]
      repeat' (first | omega | (simp -dsimp [E51, ri, cellp, ints, hki, hk1, hl, hk0, hw, wk, hg, hg', hd, cycV, hiC]) | (refine Also.intro ?_ fun _ => ?_) | (refine Hold.intro fun _ => ?_) | (refine And.intro ?_ ?_))
      refine ⟨k + 1, tle_chain rfl ?_, HLe.refl _, ⟨by omega, fun j h hj => ?_⟩, by omega⟩
      · simp [okAll, okv]
      · by_cases hjk : j = k
        · subst hjk; rw [hg']; exact hw
        · exact hall j h (by omega)
    · have hz := idxZ_at l x.badPl hk1 (by rw [hg']; exact hw) hall
      simp -dsimp [hki]
      repeat' (first | omega | (simp -dsimp [E51, ri, cellp, ints, hki, hk1, hl, hk0, hw, wk, hz, hg, hg', hd, cycV, hiC]) | (refine Also.intro ?_ fun _ => ?_) | (refine Hold.intro fun _ => ?_) | (refine And.intro ?_ ?_))
  · have hkn : ¬ (k : Int) < l.length := by omega
    have hz := idxZ_none l x.badPl (fun j h => hall j h (by omega))
    simp -dsimp [hkn]
    repeat' (first | omega | (simp -dsimp [E51, ri, cellp, ints, hkn, hz]) | (refine Also.intro ?_ fun _ => ?_) | (refine Hold.intro fun _ => ?_) | (refine And.intro ?_ ?_))
theorem ok51 : FnOK Tryz.prog 51 (.pure sgiS) := pure_fn (E := E51) rfl (.cons ok19 .nil) (ok := []) (fn := Tryz.f51) (by kernel_rfl) (by kernel_rfl) (by kernel_rfl) (by kernel_rfl) rfl (fun _ _ => by simp) b51
noncomputable abbrev E22 : Env := { P := Tryz.prog, fn := tbl [(51, .pure sgiS)], own := [], key := 2200, nt := 9 }
theorem b22 : PureBody E22 [] Tryz.f22 sgaS := by
  refine pb ?_
  rintro ⟨x, l⟩ hP
  have hz := idxZ_any l x.badPl
  have hd := sgL_dec x l
  simp -dsimp [Tryz.f22, E22, hiC]
  repeat' (first | omega | (simp -dsimp [E22, ri, cellp, ints, hP, hd, hz, hiC]) | (refine Also.intro ?_ fun _ => ?_) | (refine Hold.intro fun _ => ?_) | (refine And.intro ?_ ?_))
theorem ok22 : FnOK Tryz.prog 22 (.pure sgaS) := pure_fn (E := E22) rfl (.cons ok51 .nil) (ok := []) (fn := Tryz.f22) (by kernel_rfl) (by kernel_rfl) (by kernel_rfl) (by kernel_rfl) rfl (fun _ _ => by simp) b22

/-! Compact -/
def unri (r : List V) : Int := (r.getD 0 .top).toInt
theorem unri_map (l : List Int) : (l.map ri).map unri = l := by
  rw [List.map_map]
  conv => rhs; rw [← List.map_id l]
  exact List.map_congr_left fun x _ => rfl
def cpcV (s i : Nat) (l : List Int) : V := if (cpTo l l.length).length = l.length then .bsl s i l.length else .osl s i l.length 0 (cpTo l l.length).length l.length
def cpcL (l : List Int) : List Int := cpTo l l.length ++ List.replicate (l.length - (cpTo l l.length).length) 0
/-- slices.Compact of ints. -/
def cpcS : HSpec where
  go args h := match args with
    | [.nil] => ⟨True, .nil, h⟩
    | [.bsl s i n] => match hget h s i with
      | some B => ⟨(B.fz = false ∧ B.z = 1 ∧ B.ty = 3 ∧ n = B.els.length ∧ n ≤ 1000000 ∧ s ≠ 999999999) ∧ B.els = (B.els.map unri).map ri, cpcV s i (B.els.map unri), hset h s i { B with els := (cpcL (B.els.map unri)).map ri }⟩
      | none => ⟨False, .top, h⟩
    | _ => ⟨False, .top, h⟩
theorem cpc_inv {args : List V} {h : Hp} (hc : (cpcS.go args h).c) : (args = [.nil] ∧ cpcS.go args h = ⟨True, .nil, h⟩) ∨
    ∃ s i cl, ∃ l : List Int, args = [.bsl s i l.length] ∧ hget h s i = some { z := 1, els := l.map ri, ty := 3, cl := cl } ∧ l.length ≤ 1000000 ∧ s ≠ 999999999 ∧ cpcS.go args h = ⟨True, cpcV s i l, hset h s i { z := 1, els := (cpcL l).map ri, ty := 3, cl := cl }⟩ := by
  match args, hc with
  | [.nil], _ => exact .inl ⟨rfl, rfl⟩
  | [.bsl s i n], hc =>
    cases hB : hget h s i with
    | none => simp [cpcS, hB] at hc
    | some B =>
      obtain ⟨z, els, ty, fz, cl⟩ := B
      have hc : (fz = false ∧ z = 1 ∧ ty = 3 ∧ n = els.length ∧ n ≤ 1000000 ∧ s ≠ 999999999) ∧ els = (els.map unri).map ri := by simpa only [cpcS, hB] using hc
      obtain ⟨⟨rfl, rfl, rfl, rfl, h5, h6⟩, h7⟩ := hc
      refine .inr ⟨s, i, cl, els.map unri, by simp, by rw [← h7]; exact hB, by simpa using h5, h6, ?_⟩
      simp only [cpcS, hB]
      simp [h5, h6, ← h7]
noncomputable abbrev E26 : Env := { P := Tryz.prog, fn := tbl [], own := [], key := 2600, nt := 61 }
theorem b26 : HeapBody E26 [] Tryz.f26 cpcS := by
  intro args h hc
  rcases cpc_inv hc with ⟨rfl, hgo⟩ | ⟨s, i, cl, l, rfl, hB, hl, hs, hgo⟩
  · rw [hgo]
    clear hgo hc
    simp -dsimp [Tryz.f26, E26]
    repeat' (first | omega | (simp -dsimp [E26, ri, cellp, ints, *]) | (refine Also.intro ?_ fun _ => ?_) | (refine Hold.intro fun _ => ?_) | (refine And.intro ?_ ?_))
    exact HLe.refl _
  rw [hgo]
  clear hgo hc
  have hs1 : ∀ B', hget (hset h s i B') s i = some B' := fun B' => hget_set_same hB
  by_cases h2 : l.length < 2
  · have h2i : (l.length : Int) < 2 := by omega
    have hall := cpTo_all (l := l) (Nat.le_refl _) fun j h1 h2 => by omega
    rw [List.take_length] at hall
    have e1 : cpcV s i l = .bsl s i l.length := by simp [cpcV, hall]
    have e2 : cpcL l = l := by simp [cpcL, hall]
    rw [e1, e2, hset_get hB]
    simp -dsimp [Tryz.f26, E26]
    repeat' (first | omega | (simp -dsimp [E26, ri, cellp, ints, hB, h2i]) | (refine Also.intro ?_ fun _ => ?_) | (refine Hold.intro fun _ => ?_) | (refine And.intro ?_ ?_))
    exact HLe.refl _
  have h2i : ((l.length : Int) < 2) = False := eq_false (by omega)
  simp -dsimp [Tryz.f26, E26]
  repeat' (first | omega | (simp -dsimp [E26, ri, cellp, ints, hB, h2i]) | (refine Also.intro ?_ fun _ => ?_) | (refine Hold.intro fun _ => ?_) | (refine And.intro ?_ ?_))
  refine awp_loop [10, 11, 12, 13, 16, 17, 18, 19, 20, 21, 22, 23, 24, 25, 26, 27, 28, 4, 5, 29, 30, 31, 32, 35, 36, 37, 38, 39, 40, 41, 42, 43, 44, 45, 46, 47, 48, 49, 50, 51, 52, 53, 3, 33, 34, 54, 55, 56, 57, 58, 59, 2, 14, 15] (fun k : { k : Nat // 1 ≤ k ∧ k ≤ l.length ∧ ∀ j, 1 ≤ j → j < k → l.getD j 0 ≠ l.getD (j - 1) 0 } => [(3, (true, .int .i64 k.1))]) (fun _ => h) (fun k => l.length - k.1) ⟨1, by omega, by omega, fun j _ _ => by omega⟩ ?_ (HLe.refl _) ?_
  · simp [okAll, okv]
  rintro ⟨k, hk0, hk, hall⟩
  simp only
  by_cases hk1 : k < l.length
  · have hki : (k : Int) < l.length := by omega
    have wk : IntKind.wrap .i64 ((k : Int) + 1) = (k + 1 : Nat) := wrap_id (by omega) (by omega)
    have wm : IntKind.wrap .i64 ((k : Int) - 1) = (k - 1 : Nat) := by rw [wrap_id (by omega) (by omega)]; omega
    have hkm : k - 1 < l.length := by omega
    obtain ⟨a, ha, ha'⟩ := get_ex hk1
    obtain ⟨b, hb, hb'⟩ := get_ex hkm
    have ga : l.getD k 0 = a := by simp [List.getD, ha]
    have gb : l.getD (k - 1) 0 = b := by simp [List.getD, hb]
    by_cases hab : a = b
    · subst hab
      have hc0 : cpTo l k = l.take k := cpTo_all hk hall
      have hc1 : cpTo l (k + 1) = l.take k := by
        unfold cpTo; rw [if_neg (by rw [ga, gb]; simp; omega), hc0]
      have hl1 : (cpTo l (k + 1)).length = k := by rw [hc1]; simp; omega
      have hd1 : (cpTo l (k + 1) ++ l.drop k).map ri = l.map ri := by rw [hc1, List.take_append_drop]
      simp -dsimp [hki]
      repeat' (first | omega | (simp -dsimp [E26, ri, cellp, ints, hB, hki, hk1, wk, wm, hkm, ha, hb, ha', hb', ri]) | (refine Also.intro ?_ fun _ => ?_) | (refine Hold.intro fun _ => ?_) | (refine And.intro ?_ ?_))
      refine awp_loop [29, 30, 31, 32, 35, 36, 37, 38, 39, 40, 41, 42, 43, 44, 45, 46, 47, 48, 49, 50, 51, 52, 53, 3, 33, 34, 5] (fun t : { t : Nat // 1 ≤ t ∧ k + t ≤ l.length ∧ (cpTo l (k + t)).length < k + t } => [(5, (true, .int .i64 t.1)), (3, (true, .int .i64 ((cpTo l (k + t.1)).length : Nat)))]) (fun t => hset h s i { z := 1, els := (cpTo l (k + t.1) ++ l.drop (cpTo l (k + t.1)).length).map ri, ty := 3, cl := cl }) (fun t => l.length - k - t.1) ⟨1, by omega, by omega, by omega⟩ ?_ ?_ ?_
      · simp [okAll, okv, hl1]
      · show HLe h (hset h s i { z := 1, els := (cpTo l (k + 1) ++ l.drop (cpTo l (k + 1)).length).map ri, ty := 3, cl := cl })
        simp only [hl1, hd1, hset_get hB]; exact HLe.refl _
      rintro ⟨t, ht1, ht2, ht3⟩
      simp only
      by_cases hkt : k + t < l.length
      · obtain ⟨x, hx, hx'⟩ := get_ex hkt
        obtain ⟨y, hy, hy'⟩ := get_ex (show k + (t - 1) < l.length by omega)
        have gx : l.getD (k + t) 0 = x := by simp [List.getD, hx]
        have gy : l.getD (k + t - 1) 0 = y := by rw [show k + t - 1 = k + (t - 1) by omega]; simp [List.getD, hy]
        have hti : ((t : Int) < (l.length - k : Nat)) = True := eq_true (by omega)
        have htn : (t < l.length - k) = True := eq_true (by omega)
        have htm : (t - 1 < l.length - k) = True := eq_true (by omega)
        have wt : IntKind.wrap .i64 ((t : Int) + 1) = (t + 1 : Nat) := wrap_id (by omega) (by omega)
        have wtm : IntKind.wrap .i64 ((t : Int) - 1) = (t - 1 : Nat) := by rw [wrap_id (by omega) (by omega)]; omega
        have hn : cpTo l (k + (t + 1)) = if x ≠ y then cpTo l (k + t) ++ [x] else cpTo l (k + t) := by
          rw [show k + (t + 1) = (k + t) + 1 by omega]
          simp only [cpTo, gx, gy, show (k + t = 0) = False from eq_false (by omega), false_or]
        obtain ⟨C, hC⟩ : ∃ C, cpTo l (k + t) = C := ⟨_, rfl⟩
        rw [hC] at ht3 hn ⊢
        obtain ⟨m, hm⟩ : ∃ m, C.length = m := ⟨_, rfl⟩
        rw [hm] at ht3 ⊢
        have hmi : m < l.length := by omega
        have hTx : ((C ++ l.drop m).map ri)[k + t]? = some [.int .i64 x] := by
          rw [List.getElem?_map, List.getElem?_append_right (by omega), hm, List.getElem?_drop, show m + (k + t - m) = k + t by omega, hx]; rfl
        have hTy : ((C ++ l.drop m).map ri)[k + (t - 1)]? = some [.int .i64 y] := by
          rw [List.getElem?_map, List.getElem?_append_right (by omega), hm, List.getElem?_drop, show m + (k + (t - 1) - m) = k + (t - 1) by omega, hy]; rfl
        have hTs : ((C ++ l.drop m).map ri).set m [.int .i64 x] = (C ++ [x] ++ l.drop (m + 1)).map ri := by
          rw [show ([.int .i64 x] : List V) = ri x from rfl, ← List.map_set, List.set_append_right _ _ (by omega), hm, Nat.sub_self, List.append_assoc]
          rw [List.drop_eq_getElem_cons (show m < l.length by omega)]; rfl
        have hTl : ((C ++ l.drop m).map ri).length = l.length := by simp [hm]; omega
        have hTne : ((C ++ l.drop m).map ri = []) = False := eq_false (by intro e; rw [e] at hTl; simp at hTl; omega)
        obtain ⟨w, hw, -⟩ := get_ex hmi
        have hTm : ((C ++ l.drop m).map ri)[m]? = some [.int .i64 w] := by
          rw [List.getElem?_map, List.getElem?_append_right (by omega), hm, List.getElem?_drop, show m + (m - m) = m by omega, hw]; rfl
        have wmm : IntKind.wrap .i64 ((m : Int) + 1) = (m : Int) + 1 := wrap_id (by omega) (by omega)
        have hT0 : List.map ri C ++ List.drop m (List.map ri l) = (C ++ l.drop m).map ri := by simp
        generalize hT : (C ++ l.drop m).map ri = T at *
        have hTm' : T[m]'(by omega) = [.int .i64 w] := (List.getElem?_eq_some_iff.1 hTm).2
        have hTx' : T[k + t]'(by omega) = [.int .i64 x] := (List.getElem?_eq_some_iff.1 hTx).2
        have hTy' : T[k + (t - 1)]'(by omega) = [.int .i64 y] := (List.getElem?_eq_some_iff.1 hTy).2
        by_cases hxy : x = y
        · subst hxy
          rw [if_neg (by simp)] at hn
          simp -dsimp [hti]
          repeat' (first | omega | (simp -dsimp [E26, ri, cellp, ints, hs1, hti, htn, htm, wt, wtm, hTx, hTy, hTx', hTy', hTl, hTne, hkt]) | (refine Also.intro ?_ fun _ => ?_) | (refine Hold.intro fun _ => ?_) | (refine And.intro ?_ ?_))
          refine ⟨t + 1, tle_chain rfl ?_, ?_, ⟨by omega, by omega, by rw [hn, hm]; omega⟩, by omega⟩
          · simp [okAll, okv, hn, hm]
          · simp only [hn, hm, hT, hT0]; exact HLe.refl _
        · rw [if_pos hxy] at hn
          have hT1 : List.map ri (C ++ [x]) ++ List.drop (m + 1) (List.map ri l) = (C ++ [x] ++ l.drop (m + 1)).map ri := by simp
          generalize hT' : (C ++ [x] ++ l.drop (m + 1)).map ri = T' at *
          simp -dsimp [hti]
          repeat' (first | omega | (simp -dsimp [E26, ri, cellp, ints, hs1, hti, htn, htm, wt, wtm, hTx, hTy, hTx', hTy', hTl, hTne, hkt, hxy, hmi, hTs, hTm, hTm', wmm, hset_hset]) | (refine Also.intro ?_ fun _ => ?_) | (refine Hold.intro fun _ => ?_) | (refine And.intro ?_ ?_))
          refine ⟨t + 1, tle_chain rfl ?_, ?_, ⟨by omega, by omega, by rw [hn, List.length_append, hm]; simp; omega⟩, by omega⟩
          · simp [okAll, okv, hn, hm]
          · simp only [hn, List.length_append, List.length_singleton, hm, hT', hT1]; exact HLe.refl _
      · have hke : k + t = l.length := by omega
        have hti : ((t : Int) < (l.length - k : Nat)) = False := eq_false (by omega)
        have hn : cpTo l (k + t) = cpTo l l.length := by rw [hke]
        obtain ⟨C, hC⟩ : ∃ C, cpTo l (k + t) = C := ⟨_, rfl⟩
        rw [hC] at ht3 hn ⊢
        obtain ⟨m, hm⟩ : ∃ m, C.length = m := ⟨_, rfl⟩
        rw [hm] at ht3 ⊢
        have e1 : cpcV s i l = .osl s i l.length 0 m l.length := by rw [cpcV, ← hn, hm, if_neg (by omega)]
        have e2 : cpcL l = C ++ List.replicate (l.length - m) 0 := by rw [cpcL, ← hn, hm]
        rw [e1, e2]
        have hTl : ((C ++ l.drop m).map ri).length = l.length := by simp [hm]; omega
        have hTne : ((C ++ l.drop m).map ri = []) = False := eq_false (by intro e; rw [e] at hTl; simp at hTl; omega)
        have hTt : ((C ++ l.drop m).map ri).take m = C.map ri := by rw [← List.map_take, List.take_left' hm]
        have hTd : ∀ n, n = l.length → ((C ++ l.drop m).map ri).drop n = [] := fun n e => by rw [e, ← hTl]; exact List.drop_length
        have hmi : m < l.length := by omega
        have hm0 : m + (l.length - m) = l.length := by omega
        have hsp : (C ++ List.replicate (l.length - m) 0).map ri = C.map ri ++ List.replicate (l.length - m) [.int .i64 0] := by simp [ri]
        rw [hsp]
        generalize (C ++ l.drop m).map ri = T at *
        simp -dsimp [hti]
        repeat' (first | omega | (simp -dsimp [E26, ri, cellp, ints, hs1, hti, hTl, hTne, hTt, hTd, hmi, hm0, hset_hset]) | (refine Also.intro ?_ fun _ => ?_) | (refine Hold.intro fun _ => ?_) | (refine And.intro ?_ ?_))
        exact HLe.refl _
    · simp -dsimp [hki]
      repeat' (first | omega | (simp -dsimp [E26, ri, cellp, ints, hB, hki, hk1, wk, wm, hkm, ha, hb, ha', hb', ri, hab]) | (refine Also.intro ?_ fun _ => ?_) | (refine Hold.intro fun _ => ?_) | (refine And.intro ?_ ?_))
      refine ⟨k + 1, tle_chain rfl ?_, HLe.refl _, ⟨by omega, by omega, fun j h1 h2 => ?_⟩, by omega⟩
      · simp [okAll, okv]
      · by_cases e : j = k
        · subst e; show ¬ l.getD j 0 = l.getD (j - 1) 0; rw [ga, gb]; exact hab
        · exact hall j h1 (by omega)
  · have hkn : ((k : Int) < l.length) = False := eq_false (by omega)
    have hke : k = l.length := by omega
    subst hke
    have hc := cpTo_all (l := l) (Nat.le_refl _) hall
    rw [List.take_length] at hc
    have e1 : cpcV s i l = .bsl s i l.length := by simp [cpcV, hc]
    have e2 : cpcL l = l := by simp [cpcL, hc]
    rw [e1, e2, hset_get hB]
    simp -dsimp [hkn]
    repeat' (first | omega | (simp -dsimp [E26, ri, cellp, ints, hB, hkn]) | (refine Also.intro ?_ fun _ => ?_) | (refine Hold.intro fun _ => ?_) | (refine And.intro ?_ ?_))
    exact HLe.refl _
theorem ok26 : FnOK Tryz.prog 26 (.heap cpcS) := heap_fn (E := E26) rfl LOK.nil (ok := []) (fn := Tryz.f26) (by kernel_rfl) (by kernel_rfl) (by kernel_rfl) (by kernel_rfl) rfl (fun args h hc => by rcases cpc_inv hc with ⟨rfl, _⟩ | ⟨_, _, _, _, rfl, _⟩ <;> simp) b26
theorem cpc_go {h : Hp} {s i : Nat} {l : List Int} {cl : Bool} (hB : hget h s i = some { z := 1, els := l.map ri, ty := 3, cl := cl }) (hl : l.length ≤ 1000000) (hs : s ≠ 999999999) :
    cpcS.go [.bsl s i l.length] h = ⟨True, cpcV s i l, hset h s i { z := 1, els := (cpcL l).map ri, ty := 3, cl := cl }⟩ := by
  simp only [cpcS, hB, unri_map]
  congr 1
  exact eq_true ⟨⟨trivial, trivial, trivial, by simp, hl, hs⟩, trivial⟩
end Go.Sx
end
