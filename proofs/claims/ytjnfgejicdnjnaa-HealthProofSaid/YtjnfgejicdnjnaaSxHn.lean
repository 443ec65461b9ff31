/- A part of a proof; no conditions. -/
import Derived.Test.YtjnfgejicdnjnaaSxHm
set_option linter.unusedSimpArgs false
set_option linter.unusedVariables false
set_option maxRecDepth 100000
set_option maxHeartbeats 1000000
namespace Go.Sx
open Go.Proofs

/-! tables -/
def tabV (t : List (List Int)) : V := .sl 1 (t.map rl)
def lvRow (t : List (List Int)) (r : List Int) : Bool := r.length != (t.getD 0 []).length || !withinB r.length 1 12 || !allB r 0 1000000
@[simp] theorem toLists_tab (t : List (List Int)) : V.toLists (tabV t) = t := toLists_rl t
abbrev lvRowS : PSpec := { dom := List Int × List (List Int), enc := fun d => [ints d.1, .ip 1 [[tabV d.2]] 0 0], dec := fun l => ((l.getD 0 .top).toInts, (l.getD 1 .top).peek.toLists), pre := fun d => d.2 ≠ [] ∧ d.1.length ≤ 9223372036854775807, res := fun d => .bool (lvRow d.2 d.1) }
noncomputable abbrev E90 : Env := { P := Try.prog, fn := tbl [(56, .pure withinS), (58, .pure allS)], own := [], key := 9000, nt := 22 }
theorem b90 : PureBody E90 [] Try.f90 lvRowS := by
  refine pb ?_
  rintro ⟨r, t⟩ ⟨hne, hrl⟩
  simp only at hne hrl
  cases t with
  | nil => exact absurd rfl hne
  | cons t0 ts =>
  by_cases h1 : r.length = t0.length
  · have h1' : (r.length : Int) = t0.length := by omega
    by_cases h2 : withinB r.length 1 12 = true
    · have htl : t0.length ≤ 9223372036854775807 := by omega
      simp -dsimp [Try.f90, E90, ints, tabV, rl, h1', h2]
      repeat' (first | omega | (simp -dsimp [E90, ri, cellp, ints, h1', h1, h2, hrl, htl, tabV, rl, lvRow]) | (refine Also.intro ?_ fun _ => ?_) | (refine Hold.intro fun _ => ?_) | (refine And.intro ?_ ?_))
      all_goals (rw [← h1', h2]; simp)
    · have h2' : withinB r.length 1 12 = false := by simpa using h2
      simp -dsimp [Try.f90, E90, ints, tabV, rl, h1', h2']
      repeat' (first | omega | (simp -dsimp [E90, ri, cellp, ints, h1', h1, h2', tabV, rl, lvRow]) | (refine Also.intro ?_ fun _ => ?_) | (refine Hold.intro fun _ => ?_) | (refine And.intro ?_ ?_))
      all_goals (rw [← h1', h2']; simp)
  · have h1' : ¬ (r.length : Int) = t0.length := by omega
    simp -dsimp [Try.f90, E90, ints, tabV, rl, h1']
    repeat' (first | omega | (simp -dsimp [E90, ri, cellp, ints, h1', h1, tabV, rl, lvRow]) | (refine Also.intro ?_ fun _ => ?_) | (refine Hold.intro fun _ => ?_) | (refine And.intro ?_ ?_))
theorem ok90 : FnOK Try.prog 90 (.pure lvRowS) := pure_fn (E := E90) rfl (.cons ok56 (.cons ok58 .nil)) (ok := []) (fn := Try.f90) (by kernel_rfl) (by kernel_rfl) (by kernel_rfl) (by kernel_rfl) rfl (fun _ _ => by simp) b90
def lvIdx (t l : List (List Int)) : Int := idxP (fun i => lvRow t (l.getD i [])) l.length
abbrev idxLvS : PSpec := { dom := List (List Int) × List (List Int), enc := fun d => [tabV d.1, .fn 90 [.ip 1 [[tabV d.2]] 0 0]], dec := fun l => ((l.getD 0 .top).toLists, ((l.getD 1 .top).caps.getD 0 .top).peek.toLists), pre := fun d => d.1.length ≤ 9223372036854775807 ∧ (d.1 ≠ [] → d.2 ≠ []) ∧ ∀ r ∈ d.1, r.length ≤ 9223372036854775807, res := fun d => .int .i64 (lvIdx d.2 d.1) }
noncomputable abbrev E100 : Env := { P := Try.prog, fn := tbl [(90, .pure lvRowS)], own := [], key := 10000, nt := 19 }
theorem b100 : PureBody E100 [] Try.f100 idxLvS := by
  refine pb ?_
  rintro ⟨l, t⟩ ⟨p1, p2, p3⟩
  simp only at p1 p2 p3
  simp -dsimp [Try.f100, E100, tabV]
  refine awp_loop [9, 10, 5, 11, 12, 13, 14, 15, 16, 17, 4, 18, 8] (fun k : { k : Nat // k ≤ l.length ∧ ∀ j, j < k → lvRow t (l.getD j []) = false } => [(8, (true, .int .i64 (k.1 : Nat)))]) (fun _ => noH) (fun k => l.length - k.1) ⟨0, by omega, fun _ h => by omega⟩ ?_ (HLe.refl _) ?_
  · simp [okAll, okv]
  rintro ⟨k, hk, he⟩
  simp only
  by_cases hk1 : k < l.length
  case neg =>
    have hke : k = l.length := by omega
    subst hke
    have : lvIdx t l = -1 := idxP_none he
    simp -dsimp [this]
    repeat' (first | omega | (simp -dsimp [E100, ri, cellp, ints, this]) | (refine Also.intro ?_ fun _ => ?_) | (refine Hold.intro fun _ => ?_) | (refine And.intro ?_ ?_))
  have hne : t ≠ [] := p2 (by intro e; subst e; simp at hk1)
  have hrl := p3 l[k] (List.getElem_mem hk1)
  have w1 : IntKind.wrap .i64 ((k : Int) + 1) = (k + 1 : Nat) := wrap_id (by omega) (by omega)
  have eG : l.getD k [] = l[k] := by simp [List.getD, List.getElem?_eq_getElem hk1]
  have eL : V.toLists (.sl 1 (t.map rl)) = t := toLists_rl t
  by_cases hc : lvRow t l[k] = true
  · have hi : lvIdx t l = k := idxP_at (p := fun i => lvRow t (l.getD i [])) hk1 (by simp only [eG, hc]) he
    simp -dsimp [hk1, rl, hc]
    repeat' (first | omega | (simp -dsimp [E100, ri, cellp, ints, hk1, rl, hc, hne, hrl, tabV, eL, hi]) | (refine Also.intro ?_ fun _ => ?_) | (refine Hold.intro fun _ => ?_) | (refine And.intro ?_ ?_))
  · have hc' : lvRow t l[k] = false := by simpa using hc
    simp -dsimp [hk1, rl, hc']
    repeat' (first | omega | (simp -dsimp [E100, ri, cellp, ints, hk1, rl, hc', hne, hrl, tabV, eL, w1]) | (refine Also.intro ?_ fun _ => ?_) | (refine Hold.intro fun _ => ?_) | (refine And.intro ?_ ?_))
    refine ⟨k + 1, tle_chain rfl ?_, HLe.refl _, ⟨hk1, fun j hj => ?_⟩, by omega⟩
    · simp [okAll, okv]
    · by_cases e : j = k
      · subst e; show lvRow t (l.getD j []) = false; rw [eG]; exact hc'
      · exact he j (by omega)
theorem ok100 : FnOK Try.prog 100 (.pure idxLvS) := pure_fn (E := E100) rfl (.cons ok90 .nil) (ok := []) (fn := Try.f100) (by kernel_rfl) (by kernel_rfl) (by kernel_rfl) (by kernel_rfl) rfl (fun _ _ => by simp) b100
theorem idxP_any (p : Nat → Bool) (n : Nat) : decide (0 ≤ idxP p n) = (List.range n).any p := by
  unfold idxP
  cases h : (List.range n).find? p with
  | none =>
    rw [List.find?_eq_none] at h
    simp; intro x hx; simpa using h x (by simpa using hx)
  | some i =>
    have h1 := List.find?_some h
    have h2 := List.mem_of_find?_eq_some h
    have : (List.range n).any p = true := List.any_eq_true.2 ⟨i, h2, h1⟩
    simp [this]
theorem range_any {α : Type} (l : List α) (d : α) (p : α → Bool) : (List.range l.length).any (fun i => p (l.getD i d)) = l.any p := by
  apply Bool.eq_iff_iff.2
  simp only [List.any_eq_true, List.mem_range]
  constructor
  · rintro ⟨i, hi, hp⟩
    rw [List.getD, List.getElem?_eq_getElem hi] at hp
    exact ⟨l[i], List.getElem_mem hi, hp⟩
  · rintro ⟨x, hx, hp⟩
    obtain ⟨i, hi, rfl⟩ := List.getElem_of_mem hx
    exact ⟨i, hi, by rw [List.getD, List.getElem?_eq_getElem hi]; exact hp⟩
abbrev anyLvS : PSpec := { idxLvS with res := fun d => .bool (d.1.any (lvRow d.2)) }
noncomputable abbrev E89 : Env := { P := Try.prog, fn := tbl [(100, .pure idxLvS)], own := [], key := 8900, nt := 9 }
theorem b89 : PureBody E89 [] Try.f89 anyLvS := by
  refine pb ?_
  rintro ⟨l, t⟩ hp
  have hp := hp
  have eL : V.toLists (.sl 1 (t.map rl)) = t := toLists_rl t
  have eM : V.toLists (.sl 1 (l.map rl)) = l := toLists_rl l
  obtain ⟨p1, p2, p3⟩ := hp
  simp only at p1 p2 p3
  have hx : decide (0 ≤ lvIdx t l) = l.any (lvRow t) := (idxP_any (fun i => lvRow t (l.getD i [])) l.length).trans (range_any l [] (lvRow t))
  simp -dsimp [Try.f89, E89, tabV, eL, eM, p1]
  repeat' (first | omega | (simp -dsimp [E89, ri, cellp, ints, tabV, eL, eM, p1, hx]) | (refine Also.intro ?_ fun _ => ?_) | (refine Hold.intro fun _ => ?_) | (refine And.intro ?_ ?_))
  all_goals first | exact p2 | exact p3 | exact hx | exact ⟨p2, p3⟩ | (simpa using p2)
theorem ok89 : FnOK Try.prog 89 (.pure anyLvS) := pure_fn (E := E89) rfl (.cons ok100 .nil) (ok := []) (fn := Try.f89) (by kernel_rfl) (by kernel_rfl) (by kernel_rfl) (by kernel_rfl) rfl (fun _ _ => by simp) b89
def tabB (t : List (List Int)) : Bool := withinB t.length 1 8 && !t.any (lvRow t)
def tabPre (t : List (List Int)) : Prop := t.length ≤ 9223372036854775807 ∧ ∀ r ∈ t, r.length ≤ 9223372036854775807
abbrev tabS : PSpec := { dom := List (List Int), enc := fun d => [tabV d], dec := fun l => (l.getD 0 .top).toLists, pre := tabPre, res := fun d => .bool (tabB d) }
noncomputable abbrev E60 : Env := { P := Try.prog, fn := tbl [(56, .pure withinS), (89, .pure anyLvS)], own := [], key := 6000, nt := 12 }
theorem b60 : PureBody E60 [] Try.f60 tabS := by
  refine pb ?_
  rintro t ⟨p1, p2⟩
  have eL : V.toLists (.sl 1 (t.map rl)) = t := toLists_rl t
  by_cases h1 : withinB t.length 1 8 = true
  · simp -dsimp [Try.f60, E60, tabV, h1]
    repeat' (first | omega | (simp -dsimp [E60, ri, cellp, ints, tabV, eL, h1, p1, p2, tabB]) | (refine Also.intro ?_ fun _ => ?_) | (refine Hold.intro fun _ => ?_) | (refine And.intro ?_ ?_))
    all_goals first | exact p2 | exact fun h => h | (exact ⟨fun h => h, p2⟩)
  · have h1' : withinB t.length 1 8 = false := by simpa using h1
    simp -dsimp [Try.f60, E60, tabV, h1']
    repeat' (first | omega | (simp -dsimp [E60, ri, cellp, ints, tabV, eL, h1', p1, tabB]) | (refine Also.intro ?_ fun _ => ?_) | (refine Hold.intro fun _ => ?_) | (refine And.intro ?_ ?_))
theorem ok60 : FnOK Try.prog 60 (.pure tabS) := pure_fn (E := E60) rfl (.cons ok56 (.cons ok89 .nil)) (ok := []) (fn := Try.f60) (by kernel_rfl) (by kernel_rfl) (by kernel_rfl) (by kernel_rfl) rfl (fun _ _ => by simp) b60
theorem lvRow_mem {t : List (List Int)} {r : List Int} (hm : r ∈ t) (h : lvRow t r = true) : tabB t = false := by
  have : t.any (lvRow t) = true := List.any_eq_true.2 ⟨r, hm, h⟩
  simp [tabB, this]
noncomputable abbrev E61 : Env := { P := Try.prog, fn := tbl [(57, .pure withinS)], own := [], key := 6100, nt := 52 }
theorem b61 : PureBody E61 [] Try.f61 tabS := by
  refine pb ?_
  rintro t ⟨p1, p2⟩
  by_cases h1 : withinB t.length 1 8 = true
  case neg =>
    have h1' : withinB t.length 1 8 = false := by simpa using h1
    simp -dsimp [Try.f61, E61, tabV, h1']
    repeat' (first | omega | (simp -dsimp [E61, ri, cellp, ints, tabV, h1', tabB]) | (refine Also.intro ?_ fun _ => ?_) | (refine Hold.intro fun _ => ?_) | (refine And.intro ?_ ?_))
  have h1b : 1 ≤ (t.length : Int) ∧ (t.length : Int) ≤ 8 := by simpa [withinB] using h1
  simp -dsimp [Try.f61, E61, tabV, h1]
  repeat' (first | omega | (simp -dsimp [E61, ri, cellp, ints, h1]) | (refine Also.intro ?_ fun _ => ?_) | (refine Hold.intro fun _ => ?_) | (refine And.intro ?_ ?_))
  refine awp_loop [9, 10, 11, 12, 15, 16, 17, 18, 19, 20, 21, 22, 23, 24, 25, 26, 27, 28, 29, 30, 31, 32, 33, 2, 4, 34, 35, 36, 37, 38, 39, 40, 43, 44, 45, 46, 47, 48, 49, 50, 51, 41, 42, 13, 14, 3] (fun k : { k : Nat // k ≤ t.length ∧ ∀ j, j < k → lvRow t (t.getD j []) = false } => [(3, (true, .int .i64 (k.1 : Nat)))]) (fun _ => noH) (fun k => t.length - k.1) ⟨0, by omega, fun _ h => by omega⟩ ?_ (HLe.refl _) ?_
  · simp [okAll, okv]
  rintro ⟨k, hk, he⟩
  simp only
  by_cases hk1 : k < t.length
  case neg =>
    have hke : k = t.length := by omega
    subst hke
    have hno : t.any (lvRow t) = false := by
      rw [← range_any t [] (lvRow t), List.any_eq_false]
      intro i hi
      have := he i (by simpa using hi)
      show ¬ lvRow t (t.getD i []) = true
      rw [this]; decide
    have hb : tabB t = true := by simp [tabB, h1, hno]
    simp -dsimp [hb]
    repeat' (first | omega | (simp -dsimp [E61, ri, cellp, ints, hb]) | (refine Also.intro ?_ fun _ => ?_) | (refine Hold.intro fun _ => ?_) | (refine And.intro ?_ ?_))
  have w1 : IntKind.wrap .i64 ((k : Int) + 1) = (k + 1 : Nat) := wrap_id (by omega) (by omega)
  have eG : t.getD k [] = t[k] := by simp [List.getD, List.getElem?_eq_getElem hk1]
  have h0 : 0 < t.length := by omega
  have e0 : t.getD 0 [] = t[0] := by simp [List.getD, List.getElem?_eq_getElem h0]
  have hmem : t[k] ∈ t := List.getElem_mem hk1
  have hfail : lvRow t t[k] = true → tabB t = false := lvRow_mem hmem
  have hlv : lvRow t t[k] = (t[k].length != t[0].length || !withinB t[k].length 1 12 || !allB t[k] 0 1000000) := by rw [lvRow, e0]
  have hrl := p2 t[k] hmem
  generalize hr : t[k] = r at *
  generalize hr0 : t[0] = r0 at *
  have hq0 : t[0]? = some r0 := by rw [List.getElem?_eq_getElem h0, hr0]
  have hq1 : ¬ t = [] := by intro e; subst e; simp at h0
  by_cases h2 : withinB r.length 1 12 = true
  case neg =>
    have h2' : withinB r.length 1 12 = false := by simpa using h2
    have hf := hfail (by rw [hlv, h2']; simp)
    simp -dsimp [hk1, h0, hr, hr0, hq0, hq1, rl, h2', hf]
    repeat' (first | omega | (simp -dsimp [E61, ri, cellp, ints, hk1, h0, hr, hr0, hq0, hq1, rl, h2', hf]) | (refine Also.intro ?_ fun _ => ?_) | (refine Hold.intro fun _ => ?_) | (refine And.intro ?_ ?_))
  by_cases h3 : r.length = r0.length
  case neg =>
    have h3' : ¬ (r.length : Int) = r0.length := by omega
    have hf := hfail (by rw [hlv]; simp [h3])
    simp -dsimp [hk1, h0, hr, hr0, hq0, hq1, rl, h2, h3', hf]
    repeat' (first | omega | (simp -dsimp [E61, ri, cellp, ints, hk1, h0, hr, hr0, hq0, hq1, rl, h2, h3', hf]) | (refine Also.intro ?_ fun _ => ?_) | (refine Hold.intro fun _ => ?_) | (refine And.intro ?_ ?_))
  have h3' : (r.length : Int) = r0.length := by omega
  have h2b : withinB r0.length 1 12 = true := by rw [← h3']; exact h2
  have hlv' : lvRow t r = !allB r 0 1000000 := by rw [hlv, h2]; simp [h3]
  simp -dsimp [hk1, h0, hr, hr0, hq0, hq1, rl, h2, h2b, h3']
  repeat' (first | omega | (simp -dsimp [E61, ri, cellp, ints, hk1, h0, hr, hr0, hq0, hq1, rl, h2, h2b, h3']) | (refine Also.intro ?_ fun _ => ?_) | (refine Hold.intro fun _ => ?_) | (refine And.intro ?_ ?_))
  refine awp_loop [34, 35, 36, 37, 38, 39, 40, 43, 44, 45, 46, 47, 48, 49, 50, 51, 2, 41, 42, 4] (fun i : { i : Nat // i ≤ r.length ∧ ∀ j (h : j < r.length), j < i → withinB r[j] 0 1000000 = true } => [(4, (true, .int .i64 (i.1 : Nat)))]) (fun _ => noH) (fun i => r.length - i.1) ⟨0, by omega, fun _ _ h => by omega⟩ ?_ (HLe.refl _) ?_
  · simp [okAll, okv]
  rintro ⟨i, hi, hall⟩
  simp only
  by_cases hi1 : i < r.length
  · have w2 : IntKind.wrap .i64 ((i : Int) + 1) = (i + 1 : Nat) := wrap_id (by omega) (by omega)
    by_cases hv : withinB r[i] 0 1000000 = true
    · simp -dsimp [hk1, hr, rl, hi1, ri, hv]
      repeat' (first | omega | (simp -dsimp [E61, ri, cellp, ints, hk1, hr, rl, hi1, hv, w2]) | (refine Also.intro ?_ fun _ => ?_) | (refine Hold.intro fun _ => ?_) | (refine And.intro ?_ ?_))
      refine ⟨i + 1, tle_chain rfl ?_, HLe.refl _, ⟨by omega, fun j h hj => ?_⟩, by omega⟩
      · simp [okAll, okv]
      · by_cases hjk : j = i
        · subst hjk; exact hv
        · exact hall j h (by omega)
    · have hv' : withinB r[i] 0 1000000 = false := by simpa using hv
      have q1' : allB r 0 1000000 = false := by
        simp only [allB, List.all_eq_false]
        exact ⟨r[i], List.getElem_mem hi1, by simp [hv']⟩
      have hf := hfail (by rw [hlv', q1']; rfl)
      simp -dsimp [hk1, hr, rl, hi1, ri, hv', hf]
      repeat' (first | omega | (simp -dsimp [E61, ri, cellp, ints, hk1, hr, rl, hi1, hv', hf]) | (refine Also.intro ?_ fun _ => ?_) | (refine Hold.intro fun _ => ?_) | (refine And.intro ?_ ?_))
  have q1 : allB r 0 1000000 = true := by
    simp only [allB, List.all_eq_true]
    intro x hx
    obtain ⟨j, hj, rfl⟩ := List.getElem_of_mem hx
    exact hall j hj (by omega)
  simp -dsimp [hk1, hr, rl, hi1]
  repeat' (first | omega | (simp -dsimp [E61, ri, cellp, ints, hk1, hr, rl, hi1, w1]) | (refine Also.intro ?_ fun _ => ?_) | (refine Hold.intro fun _ => ?_) | (refine And.intro ?_ ?_))
  refine ⟨k + 1, tle_kept (kept_upds rfl (kept_forget rfl (kept_upds rfl kept_base))) ?_, HLe.refl _, ⟨hk1, fun j hj => ?_⟩, by omega⟩
  · simp [okAll, okv]
  · by_cases e : j = k
    · subst e; show lvRow t (t.getD j []) = false; rw [eG, hlv', q1]; rfl
    · exact he j (by omega)
theorem ok61 : FnOK Try.prog 61 (.pure tabS) := pure_fn (E := E61) rfl (.cons ok57 .nil) (ok := []) (fn := Try.f61) (by kernel_rfl) (by kernel_rfl) (by kernel_rfl) (by kernel_rfl) rfl (fun _ _ => by simp) b61
/-! Changed -/
def hitC (b n : List (List Int)) (p : Int) (s g : Nat) : Bool :=
  let was := (b.getD s []).getD g 0
  let d := (n.getD s []).getD g 0 - was
  decide (p * was < (if -d > d then -d else d) * 100)
def rowH (b n : List (List Int)) (p : Int) (s g : Nat) : List (Int × Int) := ((List.range g).filter (hitC b n p s)).map fun g : Nat => ((s : Int), (g : Int))
def chTo (b n : List (List Int)) (p : Int) (s : Nat) : List (Int × Int) := (List.range s).flatMap fun s => rowH b n p s (b.getD s []).length
theorem chTo_succ (b n : List (List Int)) (p : Int) (s : Nat) : chTo b n p (s + 1) = chTo b n p s ++ rowH b n p s (b.getD s []).length := by
  simp [chTo, List.range_succ]
theorem rowH_succ (b n : List (List Int)) (p : Int) (s g : Nat) : rowH b n p s (g + 1) = rowH b n p s g ++ if hitC b n p s g then [((s : Int), (g : Int))] else [] := by
  simp only [rowH, List.range_succ, List.filter_append, List.map_append, List.filter_cons, List.filter_nil]
  split <;> simp
theorem rowH_len (b n : List (List Int)) (p : Int) (s g : Nat) : (rowH b n p s g).length ≤ g := by
  have := List.length_filter_le (hitC b n p s) (List.range g)
  simpa [rowH] using this
theorem tab_facts {t : List (List Int)} (h : tabB t = true) : 1 ≤ t.length ∧ t.length ≤ 8 ∧ ∀ r ∈ t, r.length = (t.getD 0 []).length ∧ 1 ≤ r.length ∧ r.length ≤ 12 ∧ ∀ x ∈ r, 0 ≤ x ∧ x ≤ 1000000 := by
  simp only [tabB, Bool.and_eq_true, withinB, decide_eq_true_eq, Bool.not_eq_true', List.any_eq_false] at h
  refine ⟨by omega, by omega, fun r hr => ?_⟩
  have := h.2 r hr
  simp only [lvRow, Bool.or_eq_true, not_or, Bool.not_eq_true', bne_iff_ne, ne_eq, Decidable.not_not, Bool.not_eq_false, withinB, decide_eq_true_eq, allB, List.all_eq_true] at this
  obtain ⟨⟨a1, a2⟩, a3⟩ := this
  exact ⟨a1, by omega, by omega, a3⟩
theorem chTo_len {b n : List (List Int)} {p : Int} (h : ∀ r ∈ b, r.length ≤ 12) : ∀ s, s ≤ b.length → (chTo b n p s).length ≤ 12 * s := by
  intro s
  induction s with
  | zero => intro _; simp [chTo]
  | succ s ih =>
    intro hs
    have h1 := rowH_len b n p s (b.getD s []).length
    have h2 : (b.getD s []).length ≤ 12 := by
      rw [List.getD, List.getElem?_eq_getElem (by omega : s < b.length)]
      exact h _ (List.getElem_mem _)
    rw [chTo_succ, List.length_append]
    have := ih (by omega)
    omega
def chR (b n : List (List Int)) (p : Int) : List (Int × Int) × Int :=
  if tabB b && tabB n && b.length == n.length && (b.getD 0 []).length == (n.getD 0 []).length then if withinB p 0 10000 then (chTo b n p b.length, 0) else ([], 1) else ([], 81)
abbrev chS : PSpec := { dom := List (List Int) × List (List Int) × Int, enc := fun d => [tabV d.1, tabV d.2.1, .int .i64 d.2.2], dec := fun l => ((l.getD 0 .top).toLists, (l.getD 1 .top).toLists, (l.getD 2 .top).toInt), pre := fun d => tabPre d.1 ∧ tabPre d.2.1, res := fun d => .tup [.sl 2 ((chR d.1 d.2.1 d.2.2).1.map rowC), .int .i64 (chR d.1 d.2.1 d.2.2).2] }
noncomputable abbrev E25 : Env := { P := Try.prog, fn := tbl [(60, .pure tabS), (56, .pure withinS)], own := [], key := 2500, nt := 83 }
theorem b25 : PureBody E25 [] Try.f25 chS := by
  refine pb ?_
  rintro ⟨b, n, p⟩ ⟨⟨u1, u2⟩, ⟨u3, u4⟩⟩
  simp only at u1 u2 u3 u4
  have eB : V.toLists (.sl 1 (b.map rl)) = b := toLists_rl b
  have eN : V.toLists (.sl 1 (n.map rl)) = n := toLists_rl n
  by_cases q1 : tabB b = true
  case neg =>
    have q1' : tabB b = false := by simpa using q1
    simp -dsimp [Try.f25, E25, tabV, eB, q1', u1, chR]
    repeat' (first | omega | (simp -dsimp [E25, ri, cellp, ints, tabV, eB, q1', u1, tabPre, chR]) | (refine Also.intro ?_ fun _ => ?_) | (refine Hold.intro fun _ => ?_) | (refine And.intro ?_ ?_))
    all_goals exact u2
  by_cases q2 : tabB n = true
  case neg =>
    have q2' : tabB n = false := by simpa using q2
    simp -dsimp [Try.f25, E25, tabV, eB, eN, q1, q2', u1, u3, chR]
    repeat' (first | omega | (simp -dsimp [E25, ri, cellp, ints, tabV, eB, eN, q1, q2', u1, u3, tabPre, chR]) | (refine Also.intro ?_ fun _ => ?_) | (refine Hold.intro fun _ => ?_) | (refine And.intro ?_ ?_))
    all_goals first | exact u2 | exact u4
  obtain ⟨f1, f2, f3⟩ := tab_facts q1
  obtain ⟨g1, g2, g3⟩ := tab_facts q2
  have hb0 : 0 < b.length := by omega
  have hn0 : 0 < n.length := by omega
  have eb0 : b[0]? = some b[0] := List.getElem?_eq_getElem hb0
  have en0 : n[0]? = some n[0] := List.getElem?_eq_getElem hn0
  have hb1 : ¬ b = [] := by intro e; subst e; simp at hb0
  have hn1 : ¬ n = [] := by intro e; subst e; simp at hn0
  have db0 : b.getD 0 [] = b[0] := by simp [List.getD, eb0]
  have dn0 : n.getD 0 [] = n[0] := by simp [List.getD, en0]
  rw [db0] at f3
  rw [dn0] at g3
  generalize hB0 : b[0] = b0 at *
  generalize hN0 : n[0] = n0 at *
  by_cases q3 : b.length = n.length
  case neg =>
    have q3' : ((b.length : Int) != n.length) = true := by simp; omega
    have q3b : (b.length == n.length) = false := by simpa using q3
    have hr : chR b n p = ([], 81) := by simp [chR, q3b]
    simp -dsimp [Try.f25, E25, tabV, eB, eN, q1, q2, q3', eb0, en0, hb1, hn1, hb0, hn0, hB0, hN0, rl, u1, u3, hr]
    repeat' (first | omega | (simp -dsimp [E25, ri, cellp, ints, tabV, eB, eN, q1, q2, q3', eb0, en0, hb1, hn1, hb0, hn0, hB0, hN0, rl, u1, u3, tabPre, hr]) | (refine Also.intro ?_ fun _ => ?_) | (refine Hold.intro fun _ => ?_) | (refine And.intro ?_ ?_))
    all_goals first | exact u2 | exact u4
  have q3' : ((b.length : Int) != n.length) = false := by simp; omega
  by_cases q4 : b0.length = n0.length
  case neg =>
    have q4' : ((b0.length : Int) != n0.length) = true := by simp; omega
    have q4b : (b0.length == n0.length) = false := by simpa using q4
    have hr : chR b n p = ([], 81) := by simp only [chR, db0, dn0, q4b]; simp
    simp -dsimp [Try.f25, E25, tabV, eB, eN, q1, q2, q3', q4', eb0, en0, hb1, hn1, hb0, hn0, hB0, hN0, rl, u1, u3, hr]
    repeat' (first | omega | (simp -dsimp [E25, ri, cellp, ints, tabV, eB, eN, q1, q2, q3', q4', eb0, en0, hb1, hn1, hb0, hn0, hB0, hN0, rl, u1, u3, tabPre, hr]) | (refine Also.intro ?_ fun _ => ?_) | (refine Hold.intro fun _ => ?_) | (refine And.intro ?_ ?_))
    all_goals first | exact u2 | exact u4
  have q4' : ((b0.length : Int) != n0.length) = false := by simp; omega
  by_cases q5 : withinB p 0 10000 = true
  case neg =>
    have q5' : withinB p 0 10000 = false := by simpa using q5
    have hr : chR b n p = ([], 1) := by simp only [chR, db0, dn0, q1, q2, q3, q4, q5']; simp
    simp -dsimp [Try.f25, E25, tabV, eB, eN, q1, q2, q3', q4', eb0, en0, hb1, hn1, hb0, hn0, hB0, hN0, rl, u1, u3]
    repeat' (first | omega | (simp -dsimp [E25, ri, cellp, ints, tabV, eB, eN, q1, q2, q3', q4', q5', eb0, en0, hb1, hn1, hb0, hn0, hB0, hN0, rl, u1, u3, tabPre, hr]) | (refine Also.intro ?_ fun _ => ?_) | (refine Hold.intro fun _ => ?_) | (refine And.intro ?_ ?_))
    all_goals first | exact u2 | exact u4
  have q5' : 0 ≤ p ∧ p ≤ 10000 := by simpa [withinB] using q5
  have hr : chR b n p = (chTo b n p b.length, 0) := by simp only [chR, db0, dn0, q1, q2, q3, q4, q5]; simp
  have hlen := chTo_len (b := b) (n := n) (p := p) (fun r hr => (f3 r hr).2.2.1)
  simp -dsimp [Try.f25, E25, tabV, eB, eN, q1, q2, q3', q4', eb0, en0, hb1, hn1, hb0, hn0, hB0, hN0, rl, u1, u3]
  repeat' (first | omega | (simp -dsimp [E25, ri, cellp, ints, tabV, eB, eN, q1, q2, q3', q4', q5, eb0, en0, hb1, hn1, hb0, hn0, hB0, hN0, rl, u1, u3, tabPre]) | (refine Also.intro ?_ fun _ => ?_) | (refine Hold.intro fun _ => ?_) | (refine And.intro ?_ ?_))
  refine awp_loop_g [(6, 2599, 2, 69)] rfl (by simp) [45, 46, 47, 48, 8, 9, 49, 50, 51, 52, 53, 54, 55, 10, 11, 56, 57, 58, 59, 60, 61, 62, 63, 64, 12, 65, 66, 67, 68, 69, 70, 71, 72, 73, 74, 75, 76, 77, 78, 79, 6, 80, 81, 44]
    (fun s : Fin (b.length + 1) => [(44, (true, .int .i64 (s.1 : Nat))), (6, (true, .bsl 2599 0 (chTo b n p s.1).length))])
    (fun s => hps [(2599, { base := 0, blks := [{ z := 2, els := (chTo b n p s.1).map rowC, ty := 69 }] })] noH) (fun s => b.length - s.1) ⟨0, by omega⟩ ?_ (by (try simp -dsimp only [hpush_noH, hpush_hps, hps_over]); refine hle_hps ?_; simp -dsimp [allK, chTo]; repeat' (first | (refine And.intro ?_ ?_) | (refine sLe.same ?_ ?_ <;> (simp; done)) | (refine sLe.clear ?_ ?_ <;> (simp; done)) | (refine sLe.drop 1 ?_ ?_ ?_ <;> (simp; done)))) ?_
  · simp [okAll, okv, chTo]
  rintro ⟨s, hs⟩
  simp only
  by_cases hs1 : s < b.length
  case neg =>
    have hse : s = b.length := by omega
    subst hse
    simp -dsimp [hr]
    repeat' (first | omega | (simp -dsimp [E25, ri, cellp, ints, hr]) | (refine Also.intro ?_ fun _ => ?_) | (refine Hold.intro fun _ => ?_) | (refine And.intro ?_ ?_))
  have hs2 : s < n.length := by omega
  have w1 : IntKind.wrap .i64 ((s : Int) + 1) = (s + 1 : Nat) := wrap_id (by omega) (by omega)
  have hsc := chTo_succ b n p s
  have eGb : b.getD s [] = b[s] := by simp [List.getD, List.getElem?_eq_getElem hs1]
  have eGn : n.getD s [] = n[s] := by simp [List.getD, List.getElem?_eq_getElem hs2]
  have hrb := f3 b[s] (List.getElem_mem hs1)
  have hrn := g3 n[s] (List.getElem_mem hs2)
  rw [eGb] at hsc
  have hls := hlen s (by omega)
  generalize hbs : b[s] = bs at *
  generalize hns : n[s] = ns at *
  have hlns : ns.length = bs.length := by omega
  simp -dsimp [hs1, hbs, rl]
  repeat' (first | omega | (simp -dsimp [E25, ri, cellp, ints, hs1, hbs, rl]) | (refine Also.intro ?_ fun _ => ?_) | (refine Hold.intro fun _ => ?_) | (refine And.intro ?_ ?_))
  refine awp_loop [52, 53, 54, 55, 10, 11, 56, 57, 58, 59, 60, 61, 62, 63, 64, 12, 65, 66, 67, 68, 69, 70, 71, 72, 73, 74, 75, 76, 77, 78, 79, 6, 80, 51]
    (fun g : Fin (bs.length + 1) => [(51, (true, .int .i64 (g.1 : Nat))), (6, (true, .bsl 2599 0 (chTo b n p s ++ rowH b n p s g.1).length))])
    (fun g => hps [(2599, { base := 0, blks := [{ z := 2, els := (chTo b n p s ++ rowH b n p s g.1).map rowC, ty := 69 }] })] noH) (fun g => bs.length - g.1) ⟨0, by omega⟩ ?_ (by (try simp -dsimp only [hpush_noH, hpush_hps, hps_over]); refine hle_hps ?_; simp -dsimp [allK, rowH]; repeat' (first | (refine And.intro ?_ ?_) | (refine sLe.same ?_ ?_ <;> (simp; done)) | (refine sLe.clear ?_ ?_ <;> (simp; done)) | (refine sLe.drop 1 ?_ ?_ ?_ <;> (simp; done)))) ?_
  · simp [okAll, okv, rowH]
  rintro ⟨g, hg⟩
  simp only
  by_cases hg1 : g < bs.length
  · have hg2 : g < ns.length := by omega
    have w2 : IntKind.wrap .i64 ((g : Int) + 1) = (g + 1 : Nat) := wrap_id (by omega) (by omega)
    have hrs := rowH_succ b n p s g
    have hrl := rowH_len b n p s g
    have xb := hrb.2.2.2 bs[g] (List.getElem_mem hg1)
    have xn := hrn.2.2.2 ns[g] (List.getElem_mem hg2)
    have egb : bs.getD g 0 = bs[g] := by simp [List.getD, List.getElem?_eq_getElem hg1]
    have egn : ns.getD g 0 = ns[g] := by simp [List.getD, List.getElem?_eq_getElem hg2]
    have hh : hitC b n p s g = decide (p * bs[g] < (if -(ns[g] - bs[g]) > ns[g] - bs[g] then -(ns[g] - bs[g]) else ns[g] - bs[g]) * 100) := by
      unfold hitC; rw [eGb, eGn, egb, egn]
    generalize hx : bs[g] = x at *
    generalize hy : ns[g] = y at *
    have hd : IntKind.wrap .i64 (y - x) = y - x := wrap_id (by omega) (by omega)
    have hnd : IntKind.wrap .i64 (-(y - x)) = x - y := by rw [wrap_id (by omega) (by omega)]; omega
    have hmp := mul_abs (a := p) (b := x) (m := 10000) (n := 1000000) (by omega) (by omega) (by omega) (by omega)
    have hpx : IntKind.wrap .i64 (p * x) = p * x := wrap_id (by omega) (by omega)
    obtain ⟨z, hz⟩ : ∃ z : Int, z = (if -(y - x) > y - x then -(y - x) else y - x) := ⟨_, rfl⟩
    have hz1 : 0 ≤ z ∧ z ≤ 1000000 := by rw [hz]; split <;> omega
    have hz2 : (if y - x < x - y then x - y else y - x) = z := by rw [hz]; split <;> split <;> omega
    have hzw : IntKind.wrap .i64 (z * 100) = z * 100 := wrap_id (by omega) (by omega)
    rw [← hz] at hh
    have hll : ((chTo b n p s).length + (rowH b n p s g).length + 1) * 16 ≤ 140737488355328 := by omega
    by_cases hc : p * x < z * 100
    · have ht : hitC b n p s g = true := by rw [hh]; simpa using hc
      rw [ht, if_pos rfl] at hrs
      simp -dsimp [hg1, hx, ri]
      repeat' (first | omega | (simp -dsimp [E25, ri, cellp, ints, hs2, hns, rl, hg2, hg1, hx, hy, hd, hnd, hpx, hz2, hzw, hc, hll, w2]) | (refine Also.intro ?_ fun _ => ?_) | (refine Hold.intro fun _ => ?_) | (refine And.intro ?_ ?_))
      refine ⟨⟨g + 1, by omega⟩, tle_chain rfl ?_, (by (try simp -dsimp only [hpush_noH, hpush_hps, hps_over]); refine hle_hps ?_; simp -dsimp [allK, hrs, rowC]; repeat' (first | (refine And.intro ?_ ?_) | (refine sLe.same ?_ ?_ <;> (simp; done)) | (refine sLe.clear ?_ ?_ <;> (simp; done)) | (refine sLe.drop 1 ?_ ?_ ?_ <;> (simp; done)))), by simp only; omega⟩
      simp [okAll, okv, hrs]
      try omega
    · have hf : hitC b n p s g = false := by rw [hh]; simpa using hc
      rw [hf] at hrs
      simp only [Bool.false_eq_true, if_false, List.append_nil] at hrs
      simp -dsimp [hg1, hx, ri]
      repeat' (first | omega | (simp -dsimp [E25, ri, cellp, ints, hs2, hns, rl, hg2, hg1, hx, hy, hd, hnd, hpx, hz2, hzw, hc, w2]) | (refine Also.intro ?_ fun _ => ?_) | (refine Hold.intro fun _ => ?_) | (refine And.intro ?_ ?_))
      refine ⟨⟨g + 1, by omega⟩, tle_chain rfl ?_, (by (try simp -dsimp only [hpush_noH, hpush_hps, hps_over]); refine hle_hps ?_; simp -dsimp [allK, hrs]; repeat' (first | (refine And.intro ?_ ?_) | (refine sLe.same ?_ ?_ <;> (simp; done)) | (refine sLe.clear ?_ ?_ <;> (simp; done)) | (refine sLe.drop 1 ?_ ?_ ?_ <;> (simp; done)))), by simp only; omega⟩
      simp [okAll, okv, hrs]
  have hge : g = bs.length := by omega
  subst hge
  simp -dsimp
  repeat' (first | omega | (simp -dsimp [E25, ri, cellp, ints, w1]) | (refine Also.intro ?_ fun _ => ?_) | (refine Hold.intro fun _ => ?_) | (refine And.intro ?_ ?_))
  refine ⟨⟨s + 1, by omega⟩, tle_kept (kept_upds rfl (kept_forget rfl (kept_upds rfl kept_base))) ?_, (by (try simp -dsimp only [hpush_noH, hpush_hps, hps_over]); refine hle_hps ?_; simp -dsimp [allK, hsc]; repeat' (first | (refine And.intro ?_ ?_) | (refine sLe.same ?_ ?_ <;> (simp; done)) | (refine sLe.clear ?_ ?_ <;> (simp; done)) | (refine sLe.drop 1 ?_ ?_ ?_ <;> (simp; done)))), by simp only; omega⟩
  simp [okAll, okv, hsc]
theorem ok25 : FnOK Try.prog 25 (.pure chS) := pure_fn (E := E25) rfl (.cons ok60 (.cons ok56 .nil)) (ok := []) (fn := Try.f25) (by kernel_rfl) (by kernel_rfl) (by kernel_rfl) (by kernel_rfl) rfl (fun _ _ => by simp) b25
noncomputable abbrev E26 : Env := { P := Try.prog, fn := tbl [(61, .pure tabS), (57, .pure withinS)], own := [], key := 2600, nt := 93 }
theorem b26 : PureBody E26 [] Try.f26 chS := by
  refine pb ?_
  rintro ⟨b, n, p⟩ ⟨⟨u1, u2⟩, ⟨u3, u4⟩⟩
  simp only at u1 u2 u3 u4
  have eB : V.toLists (.sl 1 (b.map rl)) = b := toLists_rl b
  have eN : V.toLists (.sl 1 (n.map rl)) = n := toLists_rl n
  by_cases q1 : tabB b = true
  case neg =>
    have q1' : tabB b = false := by simpa using q1
    simp -dsimp [Try.f26, E26, tabV, eB, q1', u1, chR]
    repeat' (first | omega | (simp -dsimp [E26, ri, cellp, ints, tabV, eB, q1', u1, tabPre, chR]) | (refine Also.intro ?_ fun _ => ?_) | (refine Hold.intro fun _ => ?_) | (refine And.intro ?_ ?_))
    all_goals exact u2
  by_cases q2 : tabB n = true
  case neg =>
    have q2' : tabB n = false := by simpa using q2
    simp -dsimp [Try.f26, E26, tabV, eB, eN, q1, q2', u1, u3, chR]
    repeat' (first | omega | (simp -dsimp [E26, ri, cellp, ints, tabV, eB, eN, q1, q2', u1, u3, tabPre, chR]) | (refine Also.intro ?_ fun _ => ?_) | (refine Hold.intro fun _ => ?_) | (refine And.intro ?_ ?_))
    all_goals first | exact u2 | exact u4
  obtain ⟨f1, f2, f3⟩ := tab_facts q1
  obtain ⟨g1, g2, g3⟩ := tab_facts q2
  have hb0 : 0 < b.length := by omega
  have hn0 : 0 < n.length := by omega
  have eb0 : b[0]? = some b[0] := List.getElem?_eq_getElem hb0
  have en0 : n[0]? = some n[0] := List.getElem?_eq_getElem hn0
  have hb1 : ¬ b = [] := by intro e; subst e; simp at hb0
  have hn1 : ¬ n = [] := by intro e; subst e; simp at hn0
  have db0 : b.getD 0 [] = b[0] := by simp [List.getD, eb0]
  have dn0 : n.getD 0 [] = n[0] := by simp [List.getD, en0]
  rw [db0] at f3
  rw [dn0] at g3
  generalize hB0 : b[0] = b0 at *
  generalize hN0 : n[0] = n0 at *
  by_cases q3 : b.length = n.length
  case neg =>
    have q3' : ((b.length : Int) != n.length) = true := by simp; omega
    have q3b : (b.length == n.length) = false := by simpa using q3
    have hr : chR b n p = ([], 81) := by simp [chR, q3b]
    simp -dsimp [Try.f26, E26, tabV, eB, eN, q1, q2, q3', eb0, en0, hb1, hn1, hb0, hn0, hB0, hN0, rl, u1, u3, hr]
    repeat' (first | omega | (simp -dsimp [E26, ri, cellp, ints, tabV, eB, eN, q1, q2, q3', eb0, en0, hb1, hn1, hb0, hn0, hB0, hN0, rl, u1, u3, tabPre, hr]) | (refine Also.intro ?_ fun _ => ?_) | (refine Hold.intro fun _ => ?_) | (refine And.intro ?_ ?_))
    all_goals first | exact u2 | exact u4
  have q3' : ((b.length : Int) != n.length) = false := by simp; omega
  by_cases q4 : b0.length = n0.length
  case neg =>
    have q4' : ((b0.length : Int) != n0.length) = true := by simp; omega
    have q4b : (b0.length == n0.length) = false := by simpa using q4
    have hr : chR b n p = ([], 81) := by simp only [chR, db0, dn0, q4b]; simp
    simp -dsimp [Try.f26, E26, tabV, eB, eN, q1, q2, q3', q4', eb0, en0, hb1, hn1, hb0, hn0, hB0, hN0, rl, u1, u3, hr]
    repeat' (first | omega | (simp -dsimp [E26, ri, cellp, ints, tabV, eB, eN, q1, q2, q3', q4', eb0, en0, hb1, hn1, hb0, hn0, hB0, hN0, rl, u1, u3, tabPre, hr]) | (refine Also.intro ?_ fun _ => ?_) | (refine Hold.intro fun _ => ?_) | (refine And.intro ?_ ?_))
    all_goals first | exact u2 | exact u4
  have q4' : ((b0.length : Int) != n0.length) = false := by simp; omega
  by_cases q5 : withinB p 0 10000 = true
  case neg =>
    have q5' : withinB p 0 10000 = false := by simpa using q5
    have hr : chR b n p = ([], 1) := by simp only [chR, db0, dn0, q1, q2, q3, q4, q5']; simp
    simp -dsimp [Try.f26, E26, tabV, eB, eN, q1, q2, q3', q4', eb0, en0, hb1, hn1, hb0, hn0, hB0, hN0, rl, u1, u3]
    repeat' (first | omega | (simp -dsimp [E26, ri, cellp, ints, tabV, eB, eN, q1, q2, q3', q4', q5', eb0, en0, hb1, hn1, hb0, hn0, hB0, hN0, rl, u1, u3, tabPre, hr]) | (refine Also.intro ?_ fun _ => ?_) | (refine Hold.intro fun _ => ?_) | (refine And.intro ?_ ?_))
    all_goals first | exact u2 | exact u4
  have q5' : 0 ≤ p ∧ p ≤ 10000 := by simpa [withinB] using q5
  have hr : chR b n p = (chTo b n p b.length, 0) := by simp only [chR, db0, dn0, q1, q2, q3, q4, q5]; simp
  have hlen := chTo_len (b := b) (n := n) (p := p) (fun r hr => (f3 r hr).2.2.1)
  simp -dsimp [Try.f26, E26, tabV, eB, eN, q1, q2, q3', q4', eb0, en0, hb1, hn1, hb0, hn0, hB0, hN0, rl, u1, u3]
  repeat' (first | omega | (simp -dsimp [E26, ri, cellp, ints, tabV, eB, eN, q1, q2, q3', q4', q5, eb0, en0, hb1, hn1, hb0, hn0, hB0, hN0, rl, u1, u3, tabPre]) | (refine Also.intro ?_ fun _ => ?_) | (refine Hold.intro fun _ => ?_) | (refine And.intro ?_ ?_))
  refine awp_loop_g [(8, 2699, 2, 69)] rfl (by simp) [41, 42, 43, 44, 10, 47, 48, 49, 50, 51, 52, 53, 56, 57, 58, 59, 60, 61, 62, 63, 64, 65, 66, 67, 68, 69, 70, 11, 71, 72, 73, 74, 75, 76, 77, 78, 79, 80, 81, 82, 83, 84, 85, 86, 87, 88, 89, 90, 91, 8, 54, 55, 45, 46, 9]
    (fun s : Fin (b.length + 1) => [(9, (true, .int .i64 (s.1 : Nat))), (8, (true, .bsl 2699 0 (chTo b n p s.1).length))])
    (fun s => hps [(2699, { base := 0, blks := [{ z := 2, els := (chTo b n p s.1).map rowC, ty := 69 }] })] noH) (fun s => b.length - s.1) ⟨0, by omega⟩ ?_ (by (try simp -dsimp only [hpush_noH, hpush_hps, hps_over]); refine hle_hps ?_; simp -dsimp [allK, chTo]; repeat' (first | (refine And.intro ?_ ?_) | (refine sLe.same ?_ ?_ <;> (simp; done)) | (refine sLe.clear ?_ ?_ <;> (simp; done)) | (refine sLe.drop 1 ?_ ?_ ?_ <;> (simp; done)))) ?_
  · simp [okAll, okv, chTo]
  rintro ⟨s, hs⟩
  simp only
  by_cases hs1 : s < b.length
  case neg =>
    have hse : s = b.length := by omega
    subst hse
    simp -dsimp [hr]
    repeat' (first | omega | (simp -dsimp [E26, ri, cellp, ints, hr]) | (refine Also.intro ?_ fun _ => ?_) | (refine Hold.intro fun _ => ?_) | (refine And.intro ?_ ?_))
  have hs2 : s < n.length := by omega
  have w1 : IntKind.wrap .i64 ((s : Int) + 1) = (s + 1 : Nat) := wrap_id (by omega) (by omega)
  have hsc := chTo_succ b n p s
  have eGb : b.getD s [] = b[s] := by simp [List.getD, List.getElem?_eq_getElem hs1]
  have eGn : n.getD s [] = n[s] := by simp [List.getD, List.getElem?_eq_getElem hs2]
  have hrb := f3 b[s] (List.getElem_mem hs1)
  have hrn := g3 n[s] (List.getElem_mem hs2)
  rw [eGb] at hsc
  have hls := hlen s (by omega)
  generalize hbs : b[s] = bs at *
  generalize hns : n[s] = ns at *
  have hlns : ns.length = bs.length := by omega
  simp -dsimp [hs1, hbs, rl]
  repeat' (first | omega | (simp -dsimp [E26, ri, cellp, ints, hs1, hbs, rl]) | (refine Also.intro ?_ fun _ => ?_) | (refine Hold.intro fun _ => ?_) | (refine And.intro ?_ ?_))
  refine awp_loop [47, 48, 49, 50, 51, 52, 53, 56, 57, 58, 59, 60, 61, 62, 63, 64, 65, 66, 67, 68, 69, 70, 11, 71, 72, 73, 74, 75, 76, 77, 78, 79, 80, 81, 82, 83, 84, 85, 86, 87, 88, 89, 90, 91, 8, 54, 55, 10]
    (fun g : Fin (bs.length + 1) => [(10, (true, .int .i64 (g.1 : Nat))), (8, (true, .bsl 2699 0 (chTo b n p s ++ rowH b n p s g.1).length))])
    (fun g => hps [(2699, { base := 0, blks := [{ z := 2, els := (chTo b n p s ++ rowH b n p s g.1).map rowC, ty := 69 }] })] noH) (fun g => bs.length - g.1) ⟨0, by omega⟩ ?_ (by (try simp -dsimp only [hpush_noH, hpush_hps, hps_over]); refine hle_hps ?_; simp -dsimp [allK, rowH]; repeat' (first | (refine And.intro ?_ ?_) | (refine sLe.same ?_ ?_ <;> (simp; done)) | (refine sLe.clear ?_ ?_ <;> (simp; done)) | (refine sLe.drop 1 ?_ ?_ ?_ <;> (simp; done)))) ?_
  · simp [okAll, okv, rowH]
  rintro ⟨g, hg⟩
  simp only
  by_cases hg1 : g < bs.length
  · have hg2 : g < ns.length := by omega
    have w2 : IntKind.wrap .i64 ((g : Int) + 1) = (g + 1 : Nat) := wrap_id (by omega) (by omega)
    have hrs := rowH_succ b n p s g
    have hrl := rowH_len b n p s g
    have xb := hrb.2.2.2 bs[g] (List.getElem_mem hg1)
    have xn := hrn.2.2.2 ns[g] (List.getElem_mem hg2)
    have egb : bs.getD g 0 = bs[g] := by simp [List.getD, List.getElem?_eq_getElem hg1]
    have egn : ns.getD g 0 = ns[g] := by simp [List.getD, List.getElem?_eq_getElem hg2]
    have hh : hitC b n p s g = decide (p * bs[g] < (if -(ns[g] - bs[g]) > ns[g] - bs[g] then -(ns[g] - bs[g]) else ns[g] - bs[g]) * 100) := by
      unfold hitC; rw [eGb, eGn, egb, egn]
    generalize hx : bs[g] = x at *
    generalize hy : ns[g] = y at *
    have hd : IntKind.wrap .i64 (y - x) = y - x := wrap_id (by omega) (by omega)
    have hnd : IntKind.wrap .i64 (-(y - x)) = x - y := by rw [wrap_id (by omega) (by omega)]; omega
    have hmp := mul_abs (a := p) (b := x) (m := 10000) (n := 1000000) (by omega) (by omega) (by omega) (by omega)
    have hpx : IntKind.wrap .i64 (p * x) = p * x := wrap_id (by omega) (by omega)
    obtain ⟨z, hz⟩ : ∃ z : Int, z = (if -(y - x) > y - x then -(y - x) else y - x) := ⟨_, rfl⟩
    have hz1 : 0 ≤ z ∧ z ≤ 1000000 := by rw [hz]; split <;> omega
    have hz2 : (if y - x < x - y then x - y else y - x) = z := by rw [hz]; split <;> split <;> omega
    have hzw : IntKind.wrap .i64 (z * 100) = z * 100 := wrap_id (by omega) (by omega)
    rw [← hz] at hh
    have hll : ((chTo b n p s).length + (rowH b n p s g).length + 1) * 16 ≤ 140737488355328 := by omega
    by_cases hc : p * x < z * 100
    · have ht : hitC b n p s g = true := by rw [hh]; simpa using hc
      rw [ht, if_pos rfl] at hrs
      simp -dsimp [hs1, hbs, rl, hg1, hx, ri]
      repeat' (first | omega | (simp -dsimp [E26, ri, cellp, ints, hs1, hbs, hs2, hns, rl, hg2, hg1, hx, hy, hd, hnd, hpx, hz2, hzw, hc, hll, w2]) | (refine Also.intro ?_ fun _ => ?_) | (refine Hold.intro fun _ => ?_) | (refine And.intro ?_ ?_))
      refine ⟨⟨g + 1, by omega⟩, tle_chain rfl ?_, (by (try simp -dsimp only [hpush_noH, hpush_hps, hps_over]); refine hle_hps ?_; simp -dsimp [allK, hrs, rowC]; repeat' (first | (refine And.intro ?_ ?_) | (refine sLe.same ?_ ?_ <;> (simp; done)) | (refine sLe.clear ?_ ?_ <;> (simp; done)) | (refine sLe.drop 1 ?_ ?_ ?_ <;> (simp; done)))), by simp only; omega⟩
      simp [okAll, okv, hrs]
      try omega
    · have hf : hitC b n p s g = false := by rw [hh]; simpa using hc
      rw [hf] at hrs
      simp only [Bool.false_eq_true, if_false, List.append_nil] at hrs
      simp -dsimp [hs1, hbs, rl, hg1, hx, ri]
      repeat' (first | omega | (simp -dsimp [E26, ri, cellp, ints, hs1, hbs, hs2, hns, rl, hg2, hg1, hx, hy, hd, hnd, hpx, hz2, hzw, hc, w2]) | (refine Also.intro ?_ fun _ => ?_) | (refine Hold.intro fun _ => ?_) | (refine And.intro ?_ ?_))
      refine ⟨⟨g + 1, by omega⟩, tle_chain rfl ?_, (by (try simp -dsimp only [hpush_noH, hpush_hps, hps_over]); refine hle_hps ?_; simp -dsimp [allK, hrs]; repeat' (first | (refine And.intro ?_ ?_) | (refine sLe.same ?_ ?_ <;> (simp; done)) | (refine sLe.clear ?_ ?_ <;> (simp; done)) | (refine sLe.drop 1 ?_ ?_ ?_ <;> (simp; done)))), by simp only; omega⟩
      simp [okAll, okv, hrs]
  have hge : g = bs.length := by omega
  subst hge
  simp -dsimp [hs1, hbs, rl]
  repeat' (first | omega | (simp -dsimp [E26, ri, cellp, ints, hs1, hbs, rl, w1]) | (refine Also.intro ?_ fun _ => ?_) | (refine Hold.intro fun _ => ?_) | (refine And.intro ?_ ?_))
  refine ⟨⟨s + 1, by omega⟩, tle_kept (kept_upds rfl (kept_forget rfl (kept_upds rfl kept_base))) ?_, (by (try simp -dsimp only [hpush_noH, hpush_hps, hps_over]); refine hle_hps ?_; simp -dsimp [allK, hsc]; repeat' (first | (refine And.intro ?_ ?_) | (refine sLe.same ?_ ?_ <;> (simp; done)) | (refine sLe.clear ?_ ?_ <;> (simp; done)) | (refine sLe.drop 1 ?_ ?_ ?_ <;> (simp; done)))), by simp only; omega⟩
  simp [okAll, okv, hsc]
theorem ok26 : FnOK Try.prog 26 (.pure chS) := pure_fn (E := E26) rfl (.cons ok61 (.cons ok57 .nil)) (ok := []) (fn := Try.f26) (by kernel_rfl) (by kernel_rfl) (by kernel_rfl) (by kernel_rfl) rfl (fun _ _ => by simp) b26
abbrev sameCS : PSpec := { dom := List (Int × Int) × List (Int × Int), enc := fun d => [.sl 2 (d.1.map rowC), .sl 2 (d.2.map rowC)], dec := fun l => ((l.getD 0 .top).toCells, (l.getD 1 .top).toCells), pre := fun d => d.1.length ≤ 9223372036854775807 ∧ d.2.length ≤ 9223372036854775807, res := fun d => .bool (decide (d.1 = d.2)) }
noncomputable abbrev E27 : Env := { P := Try.prog, fn := tbl [], own := [], key := 2700, nt := 26 }
theorem b27 : PureBody E27 [] Try.f27 sameCS := by
  refine pb ?_
  rintro ⟨a, b⟩ ⟨p1, p2⟩
  simp only at p1 p2
  by_cases hl : a.length = b.length
  case neg =>
    have hne : ¬ a = b := fun e => hl (by rw [e])
    have hl' : ¬ (a.length : Int) = b.length := by omega
    simp -dsimp [Try.f27, E27, hl']
    repeat' (first | omega | (simp -dsimp [E27, ri, cellp, ints, hl', hne]) | (refine Also.intro ?_ fun _ => ?_) | (refine Hold.intro fun _ => ?_) | (refine And.intro ?_ ?_))
  have hl' : (a.length : Int) = b.length := by omega
  simp -dsimp [Try.f27, E27, hl']
  refine awp_loop [11, 12, 13, 14, 17, 18, 19, 20, 21, 22, 23, 24, 25, 4, 15, 16, 5]
    (fun k : { k : Nat // k ≤ a.length ∧ ∀ i (h1 : i < a.length) (h2 : i < b.length), i < k → a[i] = b[i] } => [(5, (true, .int .i64 (k.1 : Nat)))])
    (fun k => noH) (fun k => a.length - k.1) ⟨0, by omega, fun _ _ _ h => by omega⟩ ?_ (HLe.refl _) ?_
  · simp [okAll, okv]
  rintro ⟨k, hk, he⟩
  simp only
  by_cases hk1 : k < a.length
  · have hk2 : k < b.length := by omega
    have w1 : IntKind.wrap .i64 ((k : Int) + 1) = (k + 1 : Nat) := wrap_id (by omega) (by omega)
    have hxy : (a[k] = b[k]) = (a[k].1 = b[k].1 ∧ a[k].2 = b[k].2) := propext Prod.ext_iff
    by_cases hx : a[k] = b[k]
    · have hx' := hxy ▸ hx
      have z1 := hx'.1
      have z2 := hx'.2
      simp -dsimp [hk1, hk2, z1, z2, rowC]
      repeat' (first | omega | (simp -dsimp [E27, ri, cellp, ints, hk1, hk2, z1, z2, w1, rowC]) | (refine Also.intro ?_ fun _ => ?_) | (refine Hold.intro fun _ => ?_) | (refine And.intro ?_ ?_))
      refine ⟨k + 1, tle_chain rfl ?_, HLe.refl _, ⟨hk1, fun i h1 h2 hi => ?_⟩, by omega⟩
      · simp [okAll, okv]
      · by_cases e : i = k
        · subst e; exact hx
        · exact he i h1 h2 (by omega)
    · have hne : ¬ a = b := fun e => hx (by simp [e])
      have hx' : ¬ (a[k].1 = b[k].1 ∧ a[k].2 = b[k].2) := hxy ▸ hx
      have hz : (a[k].1 != b[k].1 || a[k].2 != b[k].2) = true := by
        simp only [Bool.or_eq_true, bne_iff_ne, ne_eq]
        by_cases e : a[k].1 = b[k].1
        · exact .inr fun h => hx' ⟨e, h⟩
        · exact .inl e
      have hz2 : (a[k].1 == b[k].1 && a[k].2 == b[k].2) = false := by
        simp only [Bool.and_eq_false_iff, beq_eq_false_iff_ne, ne_eq]
        by_cases e : a[k].1 = b[k].1
        · exact .inr fun h => hx' ⟨e, h⟩
        · exact .inl e
      have hz3 : ¬ a[k].1 = b[k].1 ∨ ¬ a[k].2 = b[k].2 := by
        by_cases e : a[k].1 = b[k].1
        · exact .inr fun h => hx' ⟨e, h⟩
        · exact .inl e
      have hz4 : a[k].1 = b[k].1 → ¬ a[k].2 = b[k].2 := fun e h => hx' ⟨e, h⟩
      simp -dsimp [hk1, hk2, hz2, rowC]
      repeat' (first | omega | (simp -dsimp [E27, ri, cellp, ints, hk1, hk2, hz, hz2, hz3, hx', w1, hne, rowC]) | (refine Also.intro ?_ fun _ => ?_) | (refine Hold.intro fun _ => ?_) | (refine And.intro ?_ ?_))
  · have hkb : ¬ k < b.length := by omega
    have heq : a = b := List.ext_getElem hl fun i h1 h2 => he i h1 h2 (by omega)
    simp -dsimp [hk1, hkb]
    repeat' (first | omega | (simp -dsimp [E27, ri, cellp, ints, hk1, hkb, heq]) | (refine Also.intro ?_ fun _ => ?_) | (refine Hold.intro fun _ => ?_) | (refine And.intro ?_ ?_))
theorem ok27 : FnOK Try.prog 27 (.pure sameCS) := pure_fn (E := E27) rfl LOK.nil (ok := []) (fn := Try.f27) (by kernel_rfl) (by kernel_rfl) (by kernel_rfl) (by kernel_rfl) rfl (fun _ _ => by simp) b27
abbrev trueChS : PSpec := { chS with res := fun _ => .bool true }
theorem chR_len (b n : List (List Int)) (p : Int) : (chR b n p).1.length ≤ 9223372036854775807 := by
  unfold chR
  split
  · rename_i h
    simp only [Bool.and_eq_true] at h
    obtain ⟨f1, f2, f3⟩ := tab_facts h.1.1.1
    have := chTo_len (b := b) (n := n) (p := p) (fun r hr => (f3 r hr).2.2.1) b.length (Nat.le_refl _)
    split <;> simp <;> omega
  · simp
noncomputable abbrev E6 : Env := { P := Try.prog, fn := tbl [(25, .pure chS), (26, .pure chS), (27, .pure sameCS), (18, .pure worksS)], own := [], key := 600, nt := 36 }
theorem b6 : PureBody E6 [] Try.f6 trueChS := by
  refine pb ?_
  rintro ⟨b, n, p⟩ ⟨u1, u2⟩
  have eB : V.toLists (.sl 1 (b.map rl)) = b := toLists_rl b
  have eN : V.toLists (.sl 1 (n.map rl)) = n := toLists_rl n
  have hl := chR_len b n p
  simp only at u1 u2
  simp -dsimp [Try.f6, E6, tabV, eB, eN]
  repeat' (first | omega | (simp -dsimp [E6, ri, cellp, ints, tabV, eB, eN, u1, u2, hl]) | (refine Also.intro ?_ fun _ => ?_) | (refine Hold.intro fun _ => ?_) | (refine And.intro ?_ ?_))
theorem ok6 : FnOK Try.prog 6 (.pure trueChS) := pure_fn (E := E6) rfl (.cons ok25 (.cons ok26 (.cons ok27 (.cons ok18 .nil)))) (ok := []) (fn := Try.f6) (by kernel_rfl) (by kernel_rfl) (by kernel_rfl) (by kernel_rfl) rfl (fun _ _ => by simp) b6
end Go.Sx

