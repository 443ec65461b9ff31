/- A part of a proof; no conditions. -/
import Derived.Test.YtnpdjaikmdagmaaDoorP10
import Derived.Test.YtnpdjaikmdagmaaDoorP11
set_option linter.unusedSimpArgs false
set_option linter.unusedVariables false
set_option linter.unusedSectionVars false
section
/- Parts: numbers within bounds, the errors of a series. No conditions. -/
set_option linter.unusedSimpArgs false
set_option maxRecDepth 100000
set_option maxHeartbeats 1000000
namespace Go.Sx
open Go.Proofs

/-- scrap and store. -/
instance : Gls := ⟨fun g => if g = 0 then some (.ip 2 [[.int .i64 (-1), .int .i64 (-1)]] 0 0) else if g = 1 then some (.ip 2 [[.int .i64 (-2), .int .i64 (-2)]] 0 0) else none⟩
def withinB (n lo hi : Int) : Bool := decide (lo ≤ n ∧ n ≤ hi)
abbrev withinS : PSpec := { dom := Int × Int × Int, enc := fun d => [.int .i64 d.1, .int .i64 d.2.1, .int .i64 d.2.2], dec := fun l => ((l.getD 0 .top).toInt, (l.getD 1 .top).toInt, (l.getD 2 .top).toInt), pre := fun _ => True, res := fun d => .bool (withinB d.1 d.2.1 d.2.2) }
noncomputable abbrev E37 : Env := { P := Tryd.prog, fn := tbl [], own := [], key := 3700, nt := 15 }
theorem b37 : PureBody E37 [] Tryd.f37 withinS := by
  refine pb ?_
  rintro ⟨n, lo, hi⟩ _
  simp -dsimp [Tryd.f37, E37, withinB]
  repeat' (first | omega | (simp -dsimp [E37, ri, cellp, ints, withinB]) | (refine Also.intro ?_ fun _ => ?_) | (refine Hold.intro fun _ => ?_) | (refine And.intro ?_ ?_))
theorem ok37 : FnOK Tryd.prog 37 (.pure withinS) := pure_fn (E := E37) rfl LOK.nil (ok := []) (fn := Tryd.f37) (by kernel_rfl) (by kernel_rfl) (by kernel_rfl) (by kernel_rfl) rfl (fun _ _ => by simp) b37
noncomputable abbrev E28 : Env := { P := Tryd.prog, fn := tbl [], own := [], key := 2800, nt := 15 }
theorem b28 : PureBody E28 [] Tryd.f28 withinS := by
  refine pb ?_
  rintro ⟨n, lo, hi⟩ _
  simp -dsimp [Tryd.f28, E28, withinB]
  repeat' (first | omega | (simp -dsimp [E28, ri, cellp, ints, withinB]) | (refine Also.intro ?_ fun _ => ?_) | (refine Hold.intro fun _ => ?_) | (refine And.intro ?_ ?_))
theorem ok28 : FnOK Tryd.prog 28 (.pure withinS) := pure_fn (E := E28) rfl LOK.nil (ok := []) (fn := Tryd.f28) (by kernel_rfl) (by kernel_rfl) (by kernel_rfl) (by kernel_rfl) rfl (fun _ _ => by simp) b28
def cellp (n : Int) : V := .ip 1 [[.int .i64 n]] 0 0
def allB (l : List Int) (lo hi : Int) : Bool := l.all fun n => withinB n lo hi


/-! checkSeries -/
abbrev outS80 : PSpec := { dom := Int, enc := fun d => [.int .i64 d], dec := fun l => (l.getD 0 .top).toInt, pre := fun _ => True, res := fun d => .bool (!withinB d (-1000000) 1000000) }
noncomputable abbrev E74 : Env := { P := Tryd.prog, fn := tbl [(37, .pure withinS)], own := [], key := 7400, nt := 6 }
theorem b74 : PureBody E74 [] Tryd.f74 outS80 := by
  refine pb ?_
  rintro n _
  simp -dsimp [Tryd.f74, E74]
  repeat' (first | omega | (simp -dsimp [E74, ri, cellp, ints, *]) | (refine Also.intro ?_ fun _ => ?_) | (refine Hold.intro fun _ => ?_) | (refine And.intro ?_ ?_))
theorem ok74 : FnOK Tryd.prog 74 (.pure outS80) := pure_fn (E := E74) rfl (.cons ok37 .nil) (ok := []) (fn := Tryd.f74) (by kernel_rfl) (by kernel_rfl) (by kernel_rfl) (by kernel_rfl) rfl (fun _ _ => by simp) b74
abbrev idxS92 : PSpec := { dom := List Int, enc := fun d => [ints d, .fn 74 []], dec := fun l => (l.getD 0 .top).toInts, pre := fun d => d.length ≤ 9223372036854775807, res := fun d => .int .i64 (idxZ d fun n => !withinB n (-1000000) 1000000) }
noncomputable abbrev E111 : Env := { P := Tryd.prog, fn := tbl [(74, .pure outS80)], own := [], key := 11100, nt := 19 }
theorem b111 : PureBody E111 [] Tryd.f111 idxS92 := by
  refine pb ?_
  rintro l hl
  simp -dsimp [Tryd.f111, E111, cellp, ints]
  refine awp_loop [9, 10, 5, 11, 12, 13, 14, 15, 16, 17, 4, 18, 8] (fun k : { k : Nat // k ≤ l.length ∧ ∀ j (h : j < l.length), j < k → withinB l[j] (-1000000) 1000000 = true } => [(8, (true, .int .i64 k.1))]) (fun _ => noH) (fun k => l.length - k.1) ⟨0, by omega, fun _ _ h => by omega⟩ ?_ (HLe.refl _) ?_
  · simp [okAll, okv]
  rintro ⟨k, hk, hall⟩
  simp -dsimp [ri]
  repeat' (first | omega | (simp -dsimp [E111, ri, cellp, ints, *]) | (refine Also.intro ?_ fun _ => ?_) | (refine Hold.intro fun _ => ?_) | (refine And.intro ?_ ?_))
  · rename_i h1 h2
    exact (idxZ_at l _ h1 (by simp [h2]) (fun j h hj => by simp [hall j h hj])).symm
  · rename_i h1 h2
    refine ⟨k + 1, tle_chain rfl ?_, HLe.refl _, ⟨by omega, fun j h hj => ?_⟩, by omega⟩
    · simp [okAll, okv]
      exact wrap_id (by omega) (by omega)
    · by_cases hjk : j = k
      · subst hjk; exact h2
      · exact hall j h (by omega)
  · exact (idxZ_none l _ (fun j h => by simp [hall j h (by omega)])).symm
theorem ok111 : FnOK Tryd.prog 111 (.pure idxS92) := pure_fn (E := E111) rfl (.cons ok74 .nil) (ok := []) (fn := Tryd.f111) (by kernel_rfl) (by kernel_rfl) (by kernel_rfl) (by kernel_rfl) rfl (fun _ _ => by simp) b111
abbrev anyS74 : PSpec := { idxS92 with res := fun d => .bool (d.any fun n => !withinB n (-1000000) 1000000) }
noncomputable abbrev E73 : Env := { P := Tryd.prog, fn := tbl [(111, .pure idxS92)], own := [], key := 7300, nt := 9 }
theorem b73 : PureBody E73 [] Tryd.f73 anyS74 := by
  refine pb ?_
  rintro l hl
  simp -dsimp [Tryd.f73, E73, ints, hl]
  repeat' (first | omega | (simp -dsimp [E73, ri, cellp, ints, hl]) | (refine Also.intro ?_ fun _ => ?_) | (refine Hold.intro fun _ => ?_) | (refine And.intro ?_ ?_))
  exact idxZ_any l _
theorem ok73 : FnOK Tryd.prog 73 (.pure anyS74) := pure_fn (E := E73) rfl (.cons ok111 .nil) (ok := []) (fn := Tryd.f73) (by kernel_rfl) (by kernel_rfl) (by kernel_rfl) (by kernel_rfl) rfl (fun _ _ => by simp) b73
def serE (l : List Int) : Int := if 300 < l.length then 2 else if allB l (-1000000) 1000000 then 0 else 1
abbrev serS : PSpec := { dom := List Int, enc := fun d => [ints d], dec := fun l => (l.getD 0 .top).toInts, pre := fun d => d.length ≤ 9223372036854775807, res := fun d => .int .i64 (serE d) }
noncomputable abbrev E51 : Env := { P := Tryd.prog, fn := tbl [(73, .pure anyS74)], own := [], key := 5100, nt := 8 }
theorem b51 : PureBody E51 [] Tryd.f51 serS := by
  refine pb ?_
  rintro l hl
  have hany : (l.any fun n => !withinB n (-1000000) 1000000) = !allB l (-1000000) 1000000 := by simp [allB, List.not_all_eq_any_not]
  by_cases h1 : 300 < l.length
  · have e1 : (300 : Int) < l.length := by omega
    simp -dsimp [Tryd.f51, E51, serE, h1]
    repeat' (first | omega | (simp -dsimp [E51, ri, cellp, ints, e1, hl, h1]) | (refine Also.intro ?_ fun _ => ?_) | (refine Hold.intro fun _ => ?_) | (refine And.intro ?_ ?_))
  · have e1 : ¬ (300 : Int) < l.length := by omega
    cases h2 : allB l (-1000000) 1000000
    · rw [h2] at hany
      simp -dsimp [Tryd.f51, E51, serE, h1, h2]
      repeat' (first | omega | (simp -dsimp [E51, ri, cellp, ints, e1, hl, h1, hany]) | (refine Also.intro ?_ fun _ => ?_) | (refine Hold.intro fun _ => ?_) | (refine And.intro ?_ ?_))
    · rw [h2] at hany
      simp -dsimp [Tryd.f51, E51, serE, h1, h2]
      repeat' (first | omega | (simp -dsimp [E51, ri, cellp, ints, e1, hl, h1, hany]) | (refine Also.intro ?_ fun _ => ?_) | (refine Hold.intro fun _ => ?_) | (refine And.intro ?_ ?_))
theorem ok51 : FnOK Tryd.prog 51 (.pure serS) := pure_fn (E := E51) rfl (.cons ok73 .nil) (ok := []) (fn := Tryd.f51) (by kernel_rfl) (by kernel_rfl) (by kernel_rfl) (by kernel_rfl) rfl (fun _ _ => by simp) b51
def dist (a b : Int) : Int := max (a - b) (b - a)
abbrev distS : PSpec := { dom := Int × Int, enc := fun d => [.int .i64 d.1, .int .i64 d.2], dec := fun l => ((l.getD 0 .top).toInt, (l.getD 1 .top).toInt), pre := fun d => (-4000000000000 ≤ d.1 ∧ d.1 ≤ 4000000000000) ∧ -4000000000000 ≤ d.2 ∧ d.2 ≤ 4000000000000, res := fun d => .int .i64 (dist d.1 d.2) }
noncomputable abbrev E77 : Env := { P := Tryd.prog, fn := tbl [], own := [], key := 7700, nt := 12 }
theorem b77 : PureBody E77 [] Tryd.f77 distS := by
  refine pb ?_
  rintro ⟨a, b⟩ ⟨⟨h1, h2⟩, h3, h4⟩
  simp only at h1 h2 h3 h4
  have w1 : IntKind.wrap .i64 (a - b) = a - b := wrap_id (by omega) (by omega)
  have w2 : IntKind.wrap .i64 (b - a) = b - a := wrap_id (by omega) (by omega)
  simp -dsimp [Tryd.f77, E77, dist]
  repeat' (first | omega | (simp -dsimp [E77, ri, cellp, ints, w1, w2, dist]) | (refine Also.intro ?_ fun _ => ?_) | (refine Hold.intro fun _ => ?_) | (refine And.intro ?_ ?_))
theorem ok77 : FnOK Tryd.prog 77 (.pure distS) := pure_fn (E := E77) rfl LOK.nil (ok := []) (fn := Tryd.f77) (by kernel_rfl) (by kernel_rfl) (by kernel_rfl) (by kernel_rfl) rfl (fun _ _ => by simp) b77
end Go.Sx
end
section
/- Pages: hours by the number of pages that they are on. No conditions. -/
set_option linter.unusedSimpArgs false
set_option linter.unusedSectionVars false
namespace Go.Sx

structure Sp where
  lo : Int
  hi : Int
  deriving DecidableEq, Inhabited
def Sp.row (s : Sp) : List V := [.int .i64 s.lo, .int .i64 s.hi]
theorem Sp.row_inj (a b : Sp) (h : a.row = b.row) : a = b := by
  cases a; cases b; simp [Sp.row] at h; simp [h]
def Sp.has (s : Sp) (h : Int) : Bool := decide (s.lo ≤ h) && decide (h ≤ s.hi)
/-- On how many of the first pages an hour is. -/
def manyTo (pg : List Sp) (h : Int) : Nat → Nat
  | 0 => 0
  | k + 1 => manyTo pg h k + if (pg.getD k default).has h = true then 1 else 0
def many (pg : List Sp) (h : Int) : Nat := manyTo pg h pg.length
theorem manyTo_le (pg : List Sp) (h : Int) : ∀ k, manyTo pg h k ≤ k
  | 0 => Nat.le_refl _
  | k + 1 => by
    have := manyTo_le pg h k
    simp only [manyTo]; split <;> omega
/-- The fewest spans of the hours that are so. -/
def rns (f : Nat → Bool) : Nat → List Sp
  | 0 => []
  | h + 1 => if f h = true then (match (rns f h).getLast? with
      | some s => if s.hi = (h : Int) - 1 then (rns f h).dropLast ++ [⟨s.lo, h⟩] else rns f h ++ [⟨h, h⟩]
      | none => [⟨h, h⟩]) else rns f h
theorem rns_no {f : Nat → Bool} {h : Nat} (hf : f h = false) : rns f (h + 1) = rns f h := by
  simp only [rns, hf]; rfl
theorem rns_nil {f : Nat → Bool} {h : Nat} (hf : f h = true) (hr : rns f h = []) : rns f (h + 1) = [⟨h, h⟩] := by
  simp only [rns, hf, hr]; rfl
theorem rns_more {f : Nat → Bool} {h : Nat} {p : List Sp} {s : Sp} (hf : f h = true) (hr : rns f h = p ++ [s]) (hs : s.hi = (h : Int) - 1) : rns f (h + 1) = p ++ [⟨s.lo, h⟩] := by
  simp [rns, hf, hr, hs]
theorem rns_new {f : Nat → Bool} {h : Nat} {p : List Sp} {s : Sp} (hf : f h = true) (hr : rns f h = p ++ [s]) (hs : ¬ s.hi = (h : Int) - 1) : rns f (h + 1) = p ++ [s] ++ [⟨h, h⟩] := by
  simp [rns, hf, hr, hs]
theorem snoc_cases {α : Type} (l : List α) : l = [] ∨ ∃ p s, l = p ++ [s] := by
  cases h : l.reverse with
  | nil => left; simpa using h
  | cons a r => right; exact ⟨r.reverse, a, by have := congrArg List.reverse h; simpa using this⟩
theorem rns_len (f : Nat → Bool) : ∀ h, (rns f h).length ≤ h
  | 0 => by simp [rns]
  | h + 1 => by
    have ih := rns_len f h
    cases hf : f h
    · rw [rns_no hf]; omega
    · rcases snoc_cases (rns f h) with e | ⟨p, s, e⟩
      · rw [rns_nil hf e]; simp
      · rw [e] at ih
        simp at ih
        by_cases hs : s.hi = (h : Int) - 1
        · rw [rns_more hf e hs]; simp; omega
        · rw [rns_new hf e hs]; simp; omega
theorem rns_congr {f g : Nat → Bool} : ∀ h, (∀ i, i < h → f i = g i) → rns f h = rns g h
  | 0, _ => rfl
  | h + 1, hfg => by simp only [rns, rns_congr h fun i hi => hfg i (by omega), hfg h (by omega)]
/-- By how much the number of pages changes at an hour. -/
def chTo (hrs : Nat) (pg : List Sp) : Nat → List Int
  | 0 => List.replicate (hrs + 1) 0
  | k + 1 => let c := chTo hrs pg k
    let a := (pg.getD k default).lo.toNat
    let b := ((pg.getD k default).hi + 1).toNat
    let c1 := c.set a (c.getD a 0 + 1)
    c1.set b (c1.getD b 0 - 1)
theorem chTo_len (hrs : Nat) (pg : List Sp) : ∀ k, (chTo hrs pg k).length = hrs + 1
  | 0 => by simp [chTo]
  | k + 1 => by simp only [chTo, List.length_set]; exact chTo_len hrs pg k
def psum (c : List Int) : Nat → Int
  | 0 => 0
  | h + 1 => psum c h + c.getD h 0
theorem psum_set (c : List Int) (a : Nat) (x : Int) (ha : a < c.length) : ∀ h, psum (c.set a x) h = psum c h + if a < h then x - c.getD a 0 else 0
  | 0 => by simp [psum]
  | h + 1 => by
    simp only [psum, psum_set c a x ha h]
    by_cases e : a = h
    · subst e
      have : (c.set a x).getD a 0 = x := by simp [List.getD, ha]
      rw [this, if_neg (by omega), if_pos (by omega)]; omega
    · have : (c.set a x).getD h 0 = c.getD h 0 := by simp [List.getD, List.getElem?_set_ne e]
      rw [this]
      by_cases hlt : a < h
      · rw [if_pos hlt, if_pos (by omega)]; omega
      · rw [if_neg hlt, if_neg (by omega)]; omega
theorem psum_zero (n : Nat) : ∀ h, psum (List.replicate n (0 : Int)) h = 0
  | 0 => rfl
  | h + 1 => by
    rw [psum, psum_zero n h]
    simp only [List.getD, List.getElem?_replicate]
    split <;> rfl
theorem psum_many {hrs : Nat} {pg : List Sp} (hp : ∀ p ∈ pg, 0 ≤ p.lo ∧ p.lo ≤ p.hi ∧ p.hi ≤ (hrs : Int) - 1) : ∀ k h, k ≤ pg.length → h < hrs → psum (chTo hrs pg k) (h + 1) = (manyTo pg h k : Nat)
  | 0, h, _, _ => by rw [chTo, psum_zero]; rfl
  | k + 1, h, hk, hh => by
    have ih := psum_many hp k h (by omega) hh
    have hkl : k < pg.length := by omega
    have hb := hp (pg.getD k default) (by simp [List.getD, hkl])
    generalize hP : pg.getD k default = p at *
    have hl := chTo_len hrs pg k
    have e0 : chTo hrs pg (k + 1) = ((chTo hrs pg k).set p.lo.toNat ((chTo hrs pg k).getD p.lo.toNat 0 + 1)).set (p.hi + 1).toNat (((chTo hrs pg k).set p.lo.toNat ((chTo hrs pg k).getD p.lo.toNat 0 + 1)).getD (p.hi + 1).toNat 0 - 1) := by
      simp only [chTo, hP]
    rw [e0, psum_set _ _ _ (by rw [List.length_set]; omega), psum_set _ _ _ (by omega), ih]
    have e1 : manyTo pg h (k + 1) = manyTo pg h k + if p.has h = true then 1 else 0 := by simp only [manyTo, hP]
    rw [e1]
    by_cases h1 : p.lo ≤ (h : Int)
    · rw [if_pos (show p.lo.toNat < h + 1 by omega)]
      by_cases h2 : (h : Int) ≤ p.hi
      · have : p.has h = true := by simp [Sp.has, h1, h2]
        rw [if_pos this, if_neg (show ¬ (p.hi + 1).toNat < h + 1 by omega)]; omega
      · have : ¬ p.has h = true := by simp [Sp.has, h2]
        rw [if_neg this, if_pos (show (p.hi + 1).toNat < h + 1 by omega)]; omega
    · rw [if_neg (show ¬ p.lo.toNat < h + 1 by omega)]
      have : ¬ p.has h = true := by simp [Sp.has, h1]
      rw [if_neg this, if_neg (show ¬ (p.hi + 1).toNat < h + 1 by omega)]; omega
theorem chTo_bd {hrs : Nat} {pg : List Sp} : ∀ (k i : Nat), -(k : Int) ≤ (chTo hrs pg k).getD i 0 ∧ (chTo hrs pg k).getD i 0 ≤ k
  | 0, i => by simp only [chTo, List.getD, List.getElem?_replicate]; split <;> simp
  | k + 1, i => by
    have ih := chTo_bd (hrs := hrs) (pg := pg) k
    have st : ∀ (c : List Int) (a j : Nat) (x : Int), (c.set a x).getD j 0 = x ∨ (c.set a x).getD j 0 = c.getD j 0 ∨ (c.set a x).getD j 0 = 0 := by
      intro c a j x
      simp only [List.getD, List.getElem?_set]
      split
      · split
        · left; rfl
        · right; right; rfl
      · right; left; rfl
    simp only [chTo]
    generalize chTo hrs pg k = c at *
    generalize (pg.getD k default).lo.toNat = a
    generalize ((pg.getD k default).hi + 1).toNat = b
    have iha := ih a
    have ihb := ih b
    have ihi := ih i
    have f1 := fun j => st c a j (c.getD a 0 + 1)
    have g1 := f1 b
    have g2 := f1 i
    rcases st (c.set a (c.getD a 0 + 1)) b i ((c.set a (c.getD a 0 + 1)).getD b 0 - 1) with h | h | h <;> rw [h] <;> omega
end Go.Sx
end
section
/- Contracts whose values are read by their encoding. No conditions. -/
namespace Go.Sx
open Classical in
/-- Out of the values what they stand for. -/
noncomputable def decC {D : Type} [Inhabited D] (enc : D → List V) (l : List V) : D := if x : ∃ d, l = enc d then x.choose else default
theorem decC_eq {D : Type} [Inhabited D] {enc : D → List V} (inj : ∀ a b, enc a = enc b → a = b) (d : D) : decC enc (enc d) = d := by
  have x : ∃ d', enc d = enc d' := ⟨d, rfl⟩
  simp only [decC, dif_pos x]
  exact (inj _ _ x.choose_spec).symm
theorem decC_of {D : Type} [Inhabited D] {enc : D → List V} (inj : ∀ a b, enc a = enc b → a = b) (d : D) {l : List V} (h : l = enc d) : decC enc l = d := by rw [h, decC_eq inj]
noncomputable abbrev mkP {D : Type} [Inhabited D] (enc : D → List V) (pre : D → Prop) (res : D → V) : PSpec := { dom := D, enc := enc, dec := decC enc, pre := pre, res := res }
noncomputable def mkH {D : Type} (enc : D → List V) (HP : D → Hp → Prop) (pre : D → Prop) (res : D → V) (post : D → Hp → Hp) : HSpec :=
  { go := fun args h => open Classical in if hx : ∃ d, args = enc d ∧ HP d h then ⟨pre hx.choose, res hx.choose, post hx.choose h⟩ else bad h }
theorem mkH_at {D : Type} {enc : D → List V} {HP : D → Hp → Prop} {pre : D → Prop} {res : D → V} {post : D → Hp → Hp} (inj : ∀ d d' h, enc d = enc d' → HP d h → HP d' h → d = d') {d : D} {h : Hp} (hd : HP d h) :
    (mkH enc HP pre res post).go (enc d) h = ⟨pre d, res d, post d h⟩ := by
  have hx : ∃ d', enc d = enc d' ∧ HP d' h := ⟨d, rfl, hd⟩
  have e : hx.choose = d := (inj _ _ _ hx.choose_spec.1 hd hx.choose_spec.2).symm
  simp only [mkH]
  rw [dif_pos hx, e]
theorem mkH_inv {D : Type} {enc : D → List V} {HP : D → Hp → Prop} {pre : D → Prop} {res : D → V} {post : D → Hp → Hp} {args : List V} {h : Hp} (hc : ((mkH enc HP pre res post).go args h).c) :
    ∃ d, args = enc d ∧ HP d h ∧ pre d ∧ (mkH enc HP pre res post).go args h = ⟨pre d, res d, post d h⟩ := by
  simp only [mkH] at hc ⊢
  by_cases hx : ∃ d, args = enc d ∧ HP d h
  · rw [dif_pos hx] at hc
    exact ⟨hx.choose, hx.choose_spec.1, hx.choose_spec.2, hc, by rw [dif_pos hx]⟩
  · rw [dif_neg hx] at hc; exact hc.elim
end Go.Sx
end
section
/- Parts: pages. No conditions. -/
set_option linter.unusedSimpArgs false
set_option linter.unusedSectionVars false
set_option maxRecDepth 100000
set_option maxHeartbeats 2000000
namespace Go.Sx
open Go.Proofs
attribute [local irreducible] HLe

theorem wrN {n : Int} (h1 : -9223372036854775808 ≤ n) (h2 : n ≤ 9223372036854775807) : IntKind.wrap .i64 n = n := wrap_id (by omega) (by omega)
@[simp] def spE (f : Sp) : List V := [.agg f.row]
theorem spE_inj (a b : Sp) (h : spE a = spE b) : a = b := Sp.row_inj _ _ (by simpa using h)
theorem spE_dec (f : Sp) : decC spE [.agg [.int .i64 f.lo, .int .i64 f.hi]] = f := decC_eq spE_inj f
theorem sps_inj {a b : List Sp} (h : a.map Sp.row = b.map Sp.row) : a = b := by
  induction a generalizing b with
  | nil => cases b with
    | nil => rfl
    | cons => simp at h
  | cons x a ih =>
    cases b with
    | nil => simp at h
    | cons y b =>
      simp only [List.map_cons, List.cons.injEq] at h
      rw [Sp.row_inj _ _ h.1, ih h.2]

/-! sameSpans -/
@[simp] def ssE (d : List Sp × List Sp) : List V := [.sl 2 (d.1.map Sp.row), .sl 2 (d.2.map Sp.row)]
theorem ssE_inj (a b : List Sp × List Sp) (h : ssE a = ssE b) : a = b := by
  obtain ⟨a1, a2⟩ := a; obtain ⟨b1, b2⟩ := b
  simp only [ssE, List.cons.injEq, V.sl.injEq, true_and, and_true] at h
  rw [sps_inj h.1, sps_inj h.2]
theorem ssE_dec (a b : List Sp) : decC ssE [.sl 2 (a.map Sp.row), .sl 2 (b.map Sp.row)] = (a, b) := decC_eq ssE_inj (a, b)
structure SsP (d : List Sp × List Sp) : Prop where
  a : d.1.length ≤ 9223372036854775807
  b : d.2.length ≤ 9223372036854775807
noncomputable abbrev sspS : PSpec := mkP ssE SsP fun d => .bool (decide (d.1 = d.2))
noncomputable abbrev E10 : Env := { P := Tryd.prog, fn := tbl [], own := [], key := 1000, nt := 26 }
theorem b10 : PureBody E10 [] Tryd.f10 sspS := by
  refine pb ?_
  rintro ⟨a, b⟩ ⟨p1, p2⟩
  simp only at p1 p2
  by_cases hl : a.length = b.length
  case neg =>
    have hne : ¬ a = b := fun e => hl (by rw [e])
    have hl' : ¬ (a.length : Int) = b.length := by omega
    simp -dsimp [Tryd.f10, E10, hl']
    repeat' (first | omega | (simp -dsimp [E10, ri, cellp, ints, hl', hne]) | (refine Also.intro ?_ fun _ => ?_) | (refine Hold.intro fun _ => ?_) | (refine And.intro ?_ ?_))
  have hl' : (a.length : Int) = b.length := by omega
  simp -dsimp [Tryd.f10, E10, hl']
  refine awp_loop [11, 12, 13, 14, 17, 18, 19, 20, 21, 22, 23, 24, 25, 4, 15, 16, 5]
    (fun k : { k : Nat // k ≤ a.length ∧ ∀ i (h1 : i < a.length) (h2 : i < b.length), i < k → a[i] = b[i] } => [(5, (true, .int .i64 (k.1 : Nat)))])
    (fun k => noH) (fun k => a.length - k.1) ⟨0, by omega, fun _ _ _ h => by omega⟩ ?_ (HLe.refl _) ?_
  · simp [okAll, okv]
  rintro ⟨k, hk, he⟩
  simp only
  by_cases hk1 : k < a.length
  · have hk2 : k < b.length := by omega
    have w1 : IntKind.wrap .i64 ((k : Int) + 1) = (k + 1 : Nat) := wrap_id (by omega) (by omega)
    by_cases hx : a[k] = b[k]
    · simp -dsimp [hk1, hk2, hx, Sp.row]
      repeat' (first | omega | (simp -dsimp [E10, ri, cellp, ints, hk1, hk2, hx, w1, Sp.row]) | (refine Also.intro ?_ fun _ => ?_) | (refine Hold.intro fun _ => ?_) | (refine And.intro ?_ ?_))
      refine ⟨k + 1, tle_chain rfl ?_, HLe.refl _, ⟨hk1, fun i h1 h2 hi => ?_⟩, by omega⟩
      · simp [okAll, okv]
      · by_cases e : i = k
        · subst e; exact hx
        · exact he i h1 h2 (by omega)
    · have hne : ¬ a = b := fun e => hx (by simp [e])
      have hx2 : ((a[k].lo == b[k].lo) && (a[k].hi == b[k].hi)) = false := by
        cases h : ((a[k].lo == b[k].lo) && (a[k].hi == b[k].hi)) with
        | false => rfl
        | true =>
          simp only [Bool.and_eq_true, beq_iff_eq] at h
          refine absurd ?_ hx
          cases h1 : a[k]; cases h2 : b[k]
          rw [h1, h2] at h
          simp only at h
          rw [h.1, h.2]
      simp -dsimp [hk1, hk2, hx2, Sp.row]
      repeat' (first | omega | (simp -dsimp [E10, ri, cellp, ints, hk1, hk2, hx2, w1, hne, Sp.row]) | (refine Also.intro ?_ fun _ => ?_) | (refine Hold.intro fun _ => ?_) | (refine And.intro ?_ ?_))
  · have hkb : ¬ k < b.length := by omega
    have heq : a = b := List.ext_getElem hl fun i h1 h2 => he i h1 h2 (by omega)
    simp -dsimp [hk1, hkb]
    repeat' (first | omega | (simp -dsimp [E10, ri, cellp, ints, hk1, hkb, heq]) | (refine Also.intro ?_ fun _ => ?_) | (refine Hold.intro fun _ => ?_) | (refine And.intro ?_ ?_))
theorem ok10 : FnOK Tryd.prog 10 (.pure sspS) := pure_fn (E := E10) rfl LOK.nil (ok := []) (fn := Tryd.f10) (by kernel_rfl) (by kernel_rfl) (by kernel_rfl) (by kernel_rfl) rfl (fun _ _ => by simp) b10

/-! the reference's -/
@[simp] def mnE (d : List Sp × Int) : List V := [.sl 2 (d.1.map Sp.row), .int .i64 d.2]
theorem mnE_inj (a b : List Sp × Int) (h : mnE a = mnE b) : a = b := by
  obtain ⟨a1, a2⟩ := a; obtain ⟨b1, b2⟩ := b
  simp only [mnE, List.cons.injEq, V.sl.injEq, V.int.injEq, true_and, and_true] at h
  rw [sps_inj h.1, h.2]
theorem mnE_dec (a : List Sp) (n : Int) : decC mnE [.sl 2 (a.map Sp.row), .int .i64 n] = (a, n) := decC_eq mnE_inj (a, n)
noncomputable abbrev manS : PSpec := mkP mnE (fun d => d.1.length ≤ 10000000000000) fun d => .int .i64 (many d.1 d.2 : Nat)
theorem has_within (p : Sp) (n : Int) : withinB n p.lo p.hi = p.has n := by
  simp [withinB, Sp.has]
noncomputable abbrev E14 : Env := { P := Tryd.prog, fn := tbl [(28, .pure withinS)], own := [], key := 1400, nt := 28 }
theorem b14 : PureBody E14 [] Tryd.f14 manS := by
  refine pb ?_
  rintro ⟨l, n⟩ hl
  have hl : l.length ≤ 10000000000000 := hl
  have hM : many l n = manyTo l n l.length := rfl
  simp -dsimp [Tryd.f14, E14]
  refine awp_loop [7, 8, 9, 10, 13, 14, 15, 16, 17, 18, 19, 20, 21, 22, 23, 24, 25, 26, 5, 11, 12, 6] (fun k : { k : Nat // k ≤ l.length } => [(6, (true, .int .i64 (k.1 : Nat))), (5, (true, .int .i64 (manyTo l n k.1 : Nat)))]) (fun _ => noH) (fun k => l.length - k.1) ⟨0, by omega⟩ ?_ (HLe.refl _) ?_
  · simp [okAll, okv, manyTo]
  rintro ⟨k, hk⟩
  dsimp only
  by_cases hk1 : k < l.length
  · have hki : (k : Int) < l.length := by omega
    have wk : IntKind.wrap .i64 ((k : Int) + 1) = (k + 1 : Nat) := wrap_id (by omega) (by omega)
    obtain ⟨p, hp⟩ : ∃ p, l[k]? = some p := ⟨_, List.getElem?_eq_getElem hk1⟩
    have hp' : l[k] = p := (List.getElem?_eq_some_iff.1 hp).2
    have hm : manyTo l n (k + 1) = manyTo l n k + if p.has n = true then 1 else 0 := by simp [manyTo, List.getD, hp]
    have hmb := manyTo_le l n k
    obtain ⟨m, hmm⟩ : ∃ m, manyTo l n k = m := ⟨_, rfl⟩
    rw [hmm] at hm hmb ⊢
    have wm : IntKind.wrap .i64 ((m : Int) + 1) = (m + 1 : Nat) := wrap_id (by omega) (by omega)
    have hw := has_within p n
    cases hb : p.has n <;> rw [hb] at hw hm
    · simp -dsimp [hki, Sp.row]
      repeat' (first | omega | (simp -dsimp [E14, ri, cellp, ints, hki, hk1, wk, hp, hp', hw, wm, Sp.row]) | (refine Also.intro ?_ fun _ => ?_) | (refine Hold.intro fun _ => ?_) | (refine And.intro ?_ ?_))
      refine ⟨k + 1, tle_chain rfl ?_, HLe.refl _, by omega, by omega⟩
      simp [okAll, okv, hm]
    · simp -dsimp [hki, Sp.row]
      repeat' (first | omega | (simp -dsimp [E14, ri, cellp, ints, hki, hk1, wk, hp, hp', hw, wm, Sp.row]) | (refine Also.intro ?_ fun _ => ?_) | (refine Hold.intro fun _ => ?_) | (refine And.intro ?_ ?_))
      refine ⟨k + 1, tle_chain rfl ?_, HLe.refl _, by omega, by omega⟩
      simp [okAll, okv, hm]
  · have hkn : ¬ (k : Int) < l.length := by omega
    have hke : k = l.length := by omega
    subst hke
    simp -dsimp [hkn]
    repeat' (first | omega | (simp -dsimp [E14, ri, cellp, ints, hkn, hM]) | (refine Also.intro ?_ fun _ => ?_) | (refine Hold.intro fun _ => ?_) | (refine And.intro ?_ ?_))
theorem ok14 : FnOK Tryd.prog 14 (.pure manS) := pure_fn (E := E14) rfl (.cons ok28 .nil) (ok := []) (fn := Tryd.f14) (by kernel_rfl) (by kernel_rfl) (by kernel_rfl) (by kernel_rfl) rfl (fun _ _ => by simp) b14
def pgOk (hrs : Int) (p : Sp) : Bool := withinB p.lo 0 (hrs - 1) && withinB p.hi p.lo (hrs - 1)
/-- The errors of pages. -/
def ckP (hrs : Int) (pg : List Sp) : Int := if withinB hrs 0 100000 = true then (if pg.length ≤ 20 then (if pg.all (pgOk hrs) = true then 0 else 10) else 2) else 1
theorem ckP_ok {hrs : Int} {pg : List Sp} (h : ckP hrs pg = 0) : 0 ≤ hrs ∧ hrs ≤ 100000 ∧ pg.length ≤ 20 ∧ ∀ p ∈ pg, 0 ≤ p.lo ∧ p.lo ≤ p.hi ∧ p.hi ≤ hrs - 1 := by
  unfold ckP at h
  split at h
  · rename_i h1
    split at h
    · rename_i h2
      split at h
      · rename_i h3
        simp only [withinB, decide_eq_true_eq] at h1
        refine ⟨h1.1, h1.2, h2, fun p hp => ?_⟩
        have := List.all_eq_true.1 h3 p hp
        simp only [pgOk, withinB, Bool.and_eq_true, decide_eq_true_eq] at this
        omega
      · omega
    · omega
  · omega
@[simp] def pgE (d : Int × List Sp) : List V := [.int .i64 d.1, .sl 2 (d.2.map Sp.row)]
theorem pgE_inj (a b : Int × List Sp) (h : pgE a = pgE b) : a = b := by
  obtain ⟨a1, a2⟩ := a; obtain ⟨b1, b2⟩ := b
  simp only [pgE, List.cons.injEq, V.sl.injEq, V.int.injEq, true_and, and_true] at h
  rw [h.1, sps_inj h.2]
theorem pgE_dec (n : Int) (a : List Sp) : decC pgE [.int .i64 n, .sl 2 (a.map Sp.row)] = (n, a) := decC_eq pgE_inj (n, a)
noncomputable abbrev ckpS : PSpec := mkP pgE (fun d => d.2.length ≤ 10000000000000) fun d => .int .i64 (ckP d.1 d.2)
noncomputable abbrev E13 : Env := { P := Tryd.prog, fn := tbl [(28, .pure withinS)], own := [], key := 1300, nt := 43 }
theorem b13 : PureBody E13 [] Tryd.f13 ckpS := by
  refine pb ?_
  rintro ⟨n, l⟩ hl
  have hl : l.length ≤ 10000000000000 := hl
  have hC : ckP n l = if withinB n 0 100000 = true then (if l.length ≤ 20 then (if l.all (pgOk n) = true then 0 else 10) else 2) else 1 := rfl
  cases h1 : withinB n 0 100000
  · rw [h1, if_neg (by decide)] at hC
    simp -dsimp [Tryd.f13, E13]
    repeat' (first | omega | (simp -dsimp [E13, ri, cellp, ints, hl, h1, hC]) | (refine Also.intro ?_ fun _ => ?_) | (refine Hold.intro fun _ => ?_) | (refine And.intro ?_ ?_))
  rw [h1, if_pos rfl] at hC
  have h1' := h1
  simp only [withinB, decide_eq_true_eq] at h1'
  have wn : IntKind.wrap .i64 (n - 1) = n - 1 := wrap_id (by omega) (by omega)
  by_cases h2 : l.length ≤ 20
  case neg =>
    rw [if_neg h2] at hC
    have e1 : ((20 : Int) < l.length) = True := eq_true (by omega)
    have e2 : (20 < l.length) = True := eq_true (by omega)
    simp -dsimp [Tryd.f13, E13]
    repeat' (first | omega | (simp -dsimp [E13, ri, cellp, ints, hl, h1, e1, e2, hC]) | (refine Also.intro ?_ fun _ => ?_) | (refine Hold.intro fun _ => ?_) | (refine And.intro ?_ ?_))
  rw [if_pos h2] at hC
  have e1 : ((20 : Int) < l.length) = False := eq_false (by omega)
  have e2 : (20 < l.length) = False := eq_false (by omega)
  simp -dsimp [Tryd.f13, E13]
  repeat' (first | omega | (simp -dsimp [E13, ri, cellp, ints, hl, h1, e1, e2]) | (refine Also.intro ?_ fun _ => ?_) | (refine Hold.intro fun _ => ?_) | (refine And.intro ?_ ?_))
  refine awp_loop [12, 13, 14, 15, 18, 19, 20, 21, 22, 23, 24, 25, 26, 27, 28, 29, 30, 31, 32, 33, 34, 35, 36, 37, 38, 39, 40, 41, 42, 4, 16, 17, 5] (fun k : { k : Nat // k ≤ l.length ∧ ∀ j (h : j < l.length), j < k → pgOk n l[j] = true } => [(5, (true, .int .i64 (k.1 : Nat))), (4, (true, .int .i64 0))]) (fun _ => noH) (fun k => l.length - k.1) ⟨0, by omega, fun _ _ h => by omega⟩ ?_ (HLe.refl _) ?_
  · simp [okAll, okv]
  rintro ⟨k, hk, hall⟩
  dsimp only
  by_cases hk1 : k < l.length
  · have hki : (k : Int) < l.length := by omega
    have wk : IntKind.wrap .i64 ((k : Int) + 1) = (k + 1 : Nat) := wrap_id (by omega) (by omega)
    obtain ⟨p, hp⟩ : ∃ p, l[k]? = some p := ⟨_, List.getElem?_eq_getElem hk1⟩
    have hp' : l[k] = p := (List.getElem?_eq_some_iff.1 hp).2
    have hK : pgOk n p = (withinB p.lo 0 (n - 1) && withinB p.hi p.lo (n - 1)) := rfl
    generalize c1 : withinB p.lo 0 (n - 1) = b1 at hK
    generalize c2 : withinB p.hi p.lo (n - 1) = b2 at hK
    cases hb : pgOk n p
    · rw [hb] at hK
      have hA : l.all (pgOk n) = false := by
        cases hA : l.all (pgOk n) with
        | false => rfl
        | true => have := List.all_eq_true.1 hA _ (List.getElem_mem hk1); rw [hp', hb] at this; cases this
      rw [hA, if_neg (by decide)] at hC
      cases b1 <;> cases b2 <;> first | (cases hK; done) | skip
      all_goals
        simp -dsimp [hki, Sp.row]
        repeat' (first | omega | (simp -dsimp [E13, ri, cellp, ints, hki, hk1, wk, wn, hp, hp', c1, c2, hC, Sp.row]) | (refine Also.intro ?_ fun _ => ?_) | (refine Hold.intro fun _ => ?_) | (refine And.intro ?_ ?_))
    · rw [hb] at hK
      cases b1 <;> cases b2 <;> first | (cases hK; done) | skip
      simp -dsimp [hki, Sp.row]
      repeat' (first | omega | (simp -dsimp [E13, ri, cellp, ints, hki, hk1, wk, wn, hp, hp', c1, c2, Sp.row]) | (refine Also.intro ?_ fun _ => ?_) | (refine Hold.intro fun _ => ?_) | (refine And.intro ?_ ?_))
      refine ⟨k + 1, tle_chain rfl ?_, HLe.refl _, ⟨by omega, fun j h hj => ?_⟩, by omega⟩
      · simp [okAll, okv]
      · by_cases hjk : j = k
        · subst hjk; rw [hp']; exact hb
        · exact hall j h (by omega)
  · have hkn : ¬ (k : Int) < l.length := by omega
    have hA : l.all (pgOk n) = true := List.all_eq_true.2 fun x hx => by
      obtain ⟨j, hj, rfl⟩ := List.getElem_of_mem hx
      exact hall j hj (by omega)
    rw [hA, if_pos rfl] at hC
    simp -dsimp [hkn]
    repeat' (first | omega | (simp -dsimp [E13, ri, cellp, ints, hkn, hC]) | (refine Also.intro ?_ fun _ => ?_) | (refine Hold.intro fun _ => ?_) | (refine And.intro ?_ ?_))
theorem ok13 : FnOK Tryd.prog 13 (.pure ckpS) := pure_fn (E := E13) rfl (.cons ok28 .nil) (ok := []) (fn := Tryd.f13) (by kernel_rfl) (by kernel_rfl) (by kernel_rfl) (by kernel_rfl) rfl (fun _ _ => by simp) b13
structure StD where
  hrs : Int
  pg : List Sp
  lo : Int
  hi : Int
  deriving Inhabited
@[simp] def stE (d : StD) : List V := [.int .i64 d.hrs, .sl 2 (d.pg.map Sp.row), .int .i64 d.lo, .int .i64 d.hi]
theorem stE_inj (a b : StD) (h : stE a = stE b) : a = b := by
  obtain ⟨a1, a2, a3, a4⟩ := a; obtain ⟨b1, b2, b3, b4⟩ := b
  simp only [stE, List.cons.injEq, V.sl.injEq, V.int.injEq, true_and, and_true] at h
  rw [h.1, sps_inj h.2.1, h.2.2.1, h.2.2.2]
theorem stE_dec (n : Int) (a : List Sp) (x y : Int) : decC stE [.int .i64 n, .sl 2 (a.map Sp.row), .int .i64 x, .int .i64 y] = ⟨n, a, x, y⟩ := decC_eq stE_inj ⟨n, a, x, y⟩
structure StP (d : StD) : Prop where
  h : d.hrs ≤ 1000000
  g : d.pg.length ≤ 10000000000000
def inS (pg : List Sp) (lo hi : Int) (h : Nat) : Bool := withinB (many pg h : Nat) lo hi
noncomputable abbrev strS : PSpec := mkP stE StP fun d => .sl 2 ((rns (inS d.pg d.lo d.hi) d.hrs.toNat).map Sp.row)
noncomputable abbrev E26 : Env := { P := Tryd.prog, fn := tbl [(14, .pure manS), (28, .pure withinS)], own := [], key := 2600, nt := 52 }
theorem b26 : PureBody E26 [] Tryd.f26 strS := by
  refine pb ?_
  rintro ⟨n, l, x, y⟩ ⟨hn, hl⟩
  simp only at hn hl
  obtain ⟨N, hN⟩ : ∃ N, n.toNat = N := ⟨_, rfl⟩
  simp -dsimp [Tryd.f26, E26, hN]
  repeat' (first | omega | (simp -dsimp [E26, ri, cellp, ints, hl, hN]) | (refine Also.intro ?_ fun _ => ?_) | (refine Hold.intro fun _ => ?_) | (refine And.intro ?_ ?_))
  refine awp_loop_g [(9, 2650, 2, 34)] rfl (by simp) [12, 13, 14, 17, 18, 19, 20, 21, 22, 23, 24, 25, 11, 26, 27, 28, 29, 30, 31, 32, 33, 34, 35, 36, 37, 38, 39, 40, 41, 42, 43, 44, 45, 46, 47, 48, 49, 50, 9, 15, 16, 10] (fun k : Fin (N + 1) => [(10, (true, .int .i64 (k.1 : Nat))), (9, (true, .bsl 2650 0 (rns (inS l x y) k.1).length))])
    (fun k => hps [(2650, { base := 0, blks := [{ z := 2, els := (rns (inS l x y) k.1).map Sp.row, ty := 34 }] })] noH) (fun k => N - k.1) ⟨0, by omega⟩ ?_ ?_ ?_
  · simp [okAll, okv, rns]
  · exact (by (try simp -dsimp only [hpush_noH, hpush_hps, hps_over]); refine hle_hps ?_; simp -dsimp [allK, rns]; repeat' (first | (refine And.intro ?_ ?_) | (refine sLe.same ?_ ?_ <;> (simp; done)) | (refine sLe.clear ?_ ?_ <;> (first | (simp; done) | (simp; omega))) | (refine sLe.drop 1 ?_ ?_ ?_ <;> (simp; done))))
  rintro ⟨k, hk⟩
  simp only
  by_cases hk1 : k < N
  · have hki : (k : Int) < n := by omega
    have wk : IntKind.wrap .i64 ((k : Int) + 1) = (k + 1 : Nat) := wrap_id (by omega) (by omega)
    have wk1 : IntKind.wrap .i64 ((k : Int) - 1) = (k : Int) - 1 := wrap_id (by omega) (by omega)
    have hme := mnE_dec l k
    obtain ⟨m, hm⟩ : ∃ m, many l (k : Int) = m := ⟨_, rfl⟩
    have hI : inS l x y k = withinB (m : Nat) x y := by rw [inS, hm]
    have hln := rns_len (inS l x y) k
    cases hw : withinB (m : Nat) x y <;> rw [hw] at hI
    · have hT := rns_no hI
      generalize rns (inS l x y) k = T at *
      simp -dsimp [hki]
      repeat' (first | omega | (simp -dsimp [E26, ri, cellp, ints, hki, wk, wk1, hme, hm, hw, hl]) | (refine Also.intro ?_ fun _ => ?_) | (refine Hold.intro fun _ => ?_) | (refine And.intro ?_ ?_))
      refine ⟨⟨k + 1, by omega⟩, tle_chain rfl ?_, (by (try simp -dsimp only [hpush_noH, hpush_hps, hps_over]); refine hle_hps ?_; simp -dsimp [allK, hT]; repeat' (first | (refine And.intro ?_ ?_) | (refine sLe.same ?_ ?_ <;> (simp; done)) | (refine sLe.clear ?_ ?_ <;> (first | (simp; done) | (simp; omega))) | (refine sLe.drop 1 ?_ ?_ ?_ <;> (simp; done)))), by simp only; omega⟩
      simp [okAll, okv, hT]
    · rcases snoc_cases (rns (inS l x y) k) with e | ⟨q, s, e⟩
      · have hT := rns_nil hI e
        rw [e] at hln ⊢
        simp -dsimp [hki]
        repeat' (first | omega | (simp -dsimp [E26, ri, cellp, ints, hki, wk, wk1, hme, hm, hw, hl]) | (refine Also.intro ?_ fun _ => ?_) | (refine Hold.intro fun _ => ?_) | (refine And.intro ?_ ?_))
        refine ⟨⟨k + 1, by omega⟩, tle_chain rfl ?_, (by (try simp -dsimp only [hpush_noH, hpush_hps, hps_over]); refine hle_hps ?_; simp -dsimp [allK, hT, Sp.row]; repeat' (first | (refine And.intro ?_ ?_) | (refine sLe.same ?_ ?_ <;> (simp; done)) | (refine sLe.clear ?_ ?_ <;> (first | (simp; done) | (simp; omega))) | (refine sLe.drop 1 ?_ ?_ ?_ <;> (simp; done)))), by simp only; omega⟩
        simp [okAll, okv, hT]
      · rw [e] at hln
        simp only [List.length_append, List.length_cons, List.length_nil] at hln
        have hqi : (0 : Int) < (q.length : Int) + 1 := by omega
        have wq : IntKind.wrap .i64 ((q.length : Int) + 1 - 1) = (q.length : Nat) := by rw [wrN (by omega) (by omega)]; omega
        have wq' : IntKind.wrap .i64 (q.length : Int) = (q.length : Nat) := wrap_id (by omega) (by omega)
        have hset : ∀ z : Sp, (q.map Sp.row ++ [s.row]).set q.length z.row = (q ++ [z]).map Sp.row := by
          intro z; rw [List.set_append_right _ _ (by simp)]; simp
        by_cases hs : s.hi = (k : Int) - 1
        · have hT := rns_more hI e hs
          rw [e]
          simp -dsimp [hki]
          repeat' (first | omega | (simp -dsimp [E26, ri, cellp, ints, hki, wk, wk1, hme, hm, hw, hl, wq, wq', hs, hqi, Sp.row]) | (refine Also.intro ?_ fun _ => ?_) | (refine Hold.intro fun _ => ?_) | (refine And.intro ?_ ?_))
          refine ⟨⟨k + 1, by omega⟩, tle_chain rfl ?_, (by (try simp -dsimp only [hpush_noH, hpush_hps, hps_over]); refine hle_hps ?_; simp -dsimp [allK, hT, Sp.row]; repeat' (first | (refine And.intro ?_ ?_) | (refine sLe.same ?_ ?_ <;> (simp; done)) | (refine sLe.clear ?_ ?_ <;> (first | (simp; done) | (simp; omega))) | (refine sLe.drop 1 ?_ ?_ ?_ <;> (simp; done)))), by simp only; omega⟩
          simp [okAll, okv, hT]
        · have hT := rns_new hI e hs
          have hs' : (s.hi = (k : Int) - 1) = False := eq_false hs
          have hb16 : (q.length + 1 + 1) * 16 ≤ 140737488355328 := by omega
          rw [e]
          simp -dsimp [hki]
          repeat' (first | omega | (simp -dsimp [E26, ri, cellp, ints, hki, wk, wk1, hme, hm, hw, hl, wq, wq', hs', hqi, hb16, Sp.row]) | (refine Also.intro ?_ fun _ => ?_) | (refine Hold.intro fun _ => ?_) | (refine And.intro ?_ ?_))
          refine ⟨⟨k + 1, by omega⟩, tle_chain rfl ?_, (by (try simp -dsimp only [hpush_noH, hpush_hps, hps_over]); refine hle_hps ?_; simp -dsimp [allK, hT, Sp.row]; repeat' (first | (refine And.intro ?_ ?_) | (refine sLe.same ?_ ?_ <;> (simp; done)) | (refine sLe.clear ?_ ?_ <;> (first | (simp; done) | (simp; omega))) | (refine sLe.drop 1 ?_ ?_ ?_ <;> (simp; done)))), by simp only; omega⟩
          simp [okAll, okv, hT]
  · have hkn : ¬ (k : Int) < n := by omega
    have hke : k = N := by omega
    subst hke
    simp -dsimp [hkn]
    repeat' (first | omega | (simp -dsimp [E26, ri, cellp, ints, hkn]) | (refine Also.intro ?_ fun _ => ?_) | (refine Hold.intro fun _ => ?_) | (refine And.intro ?_ ?_))
theorem ok26 : FnOK Tryd.prog 26 (.pure strS) := pure_fn (E := E26) rfl (.cons ok14 (.cons ok28 .nil)) (ok := []) (fn := Tryd.f26) (by kernel_rfl) (by kernel_rfl) (by kernel_rfl) (by kernel_rfl) rfl (fun _ _ => by simp) b26
end Go.Sx
end
section
/- Parts: the program's pages. No conditions. -/
set_option linter.unusedSimpArgs false
set_option linter.unusedSectionVars false
set_option maxRecDepth 100000
set_option maxHeartbeats 2000000
namespace Go.Sx
open Go.Proofs
attribute [local irreducible] HLe

theorem mapRow_inj {α : Type} {row : α → List V} (inj : ∀ a b, row a = row b → a = b) {a b : List α} (h : a.map row = b.map row) : a = b := by
  induction a generalizing b with
  | nil => cases b with
    | nil => rfl
    | cons => simp at h
  | cons x a ih =>
    cases b with
    | nil => simp at h
    | cons y b =>
      simp only [List.map_cons, List.cons.injEq] at h
      rw [inj _ _ h.1, ih h.2]
/-! spans -/
noncomputable abbrev E79 : Env := { P := Tryd.prog, fn := tbl [], own := [], key := 7900, nt := 15 }
theorem b79 : PureBody E79 [] Tryd.f79 withinS := by
  refine pb ?_
  rintro ⟨n, a, b⟩ _
  simp -dsimp [Tryd.f79, E79, withinB]
  repeat' (first | omega | (simp -dsimp [E79, ri, cellp, ints, *]) | (refine Also.intro ?_ fun _ => ?_) | (refine Hold.intro fun _ => ?_) | (refine And.intro ?_ ?_))
theorem ok79 : FnOK Tryd.prog 79 (.pure withinS) := pure_fn (E := E79) rfl LOK.nil (ok := []) (fn := Tryd.f79) (by kernel_rfl) (by kernel_rfl) (by kernel_rfl) (by kernel_rfl) rfl (fun _ _ => by simp) b79
def spN (f : Sp) : Bool := !(withinB f.lo (-1000000) f.hi && decide (f.hi ≤ 1000000))
noncomputable abbrev spvS : PSpec := mkP spE (fun _ => True) fun f => .bool (!spN f)
noncomputable abbrev spnS : PSpec := mkP spE (fun _ => True) fun f => .bool (spN f)
noncomputable abbrev E114 : Env := { P := Tryd.prog, fn := tbl [(79, .pure withinS)], own := [], key := 11400, nt := 13 }
theorem b114 : PureBody E114 [] Tryd.f114 spvS := by
  refine pb ?_
  rintro f _
  simp -dsimp [Tryd.f114, E114, Sp.row, spN]
  repeat' (first | omega | (simp -dsimp [E114, ri, cellp, ints, Sp.row, spN]) | (refine Also.intro ?_ fun _ => ?_) | (refine Hold.intro fun _ => ?_) | (refine And.intro ?_ ?_))
theorem ok114 : FnOK Tryd.prog 114 (.pure spvS) := pure_fn (E := E114) rfl (.cons ok79 .nil) (ok := []) (fn := Tryd.f114) (by kernel_rfl) (by kernel_rfl) (by kernel_rfl) (by kernel_rfl) rfl (fun _ _ => by simp) b114
noncomputable abbrev E113 : Env := { P := Tryd.prog, fn := tbl [(114, .pure spvS)], own := [], key := 11300, nt := 6 }
theorem b113 : PureBody E113 [] Tryd.f113 spnS := by
  refine pb ?_
  rintro f _
  simp -dsimp [Tryd.f113, E113, Sp.row]
  repeat' (first | omega | (simp -dsimp [E113, ri, cellp, ints, Sp.row, spE_dec]) | (refine Also.intro ?_ fun _ => ?_) | (refine Hold.intro fun _ => ?_) | (refine And.intro ?_ ?_))
theorem ok113 : FnOK Tryd.prog 113 (.pure spnS) := pure_fn (E := E113) rfl (.cons ok114 .nil) (ok := []) (fn := Tryd.f113) (by kernel_rfl) (by kernel_rfl) (by kernel_rfl) (by kernel_rfl) rfl (fun _ _ => by simp) b113
@[simp] def spssE (d : List Sp) : List V := [.sl 2 (d.map Sp.row), .fn 113 []]
theorem spssE_inj (a b : List Sp) (h : spssE a = spssE b) : a = b := by
  simp only [spssE, List.cons.injEq, V.sl.injEq, true_and, and_true] at h
  exact mapRow_inj Sp.row_inj h
theorem spssE_dec (l : List Sp) : decC spssE [.sl 2 (l.map Sp.row), .fn 113 []] = l := decC_eq spssE_inj l
noncomputable abbrev spsixS : PSpec := mkP spssE (fun d => d.length ≤ 1000000) fun d => .int .i64 (idxZ d spN)
noncomputable abbrev spsanS : PSpec := mkP spssE (fun d => d.length ≤ 1000000) fun d => .bool (d.any spN)
noncomputable abbrev E125 : Env := { P := Tryd.prog, fn := tbl [(113, .pure spnS)], own := [], key := 12500, nt := 19 }
theorem b125 : PureBody E125 [] Tryd.f125 spsixS := by
  refine pb ?_
  rintro l hl
  have hl : l.length ≤ 1000000 := hl
  simp -dsimp [Tryd.f125, E125]
  refine awp_loop [9, 10, 5, 11, 12, 13, 14, 15, 16, 17, 4, 18, 8] (fun k : { k : Nat // k ≤ l.length ∧ ∀ j (h : j < l.length), j < k → spN l[j] = false } => [(8, (true, .int .i64 k.1))]) (fun _ => noH) (fun k => l.length - k.1) ⟨0, by omega, fun _ _ h => by omega⟩ ?_ (HLe.refl _) ?_
  · simp [okAll, okv]
  rintro ⟨k, hk, hall⟩
  by_cases hk1 : k < l.length
  · have hki : (k : Int) < l.length := by omega
    have wk : IntKind.wrap .i64 ((k : Int) + 1) = (k + 1 : Nat) := wrap_id (by omega) (by omega)
    cases hw : spN l[k]
    · simp -dsimp [hki]
      repeat' (first | omega | (simp -dsimp [E125, ri, cellp, ints, hki, hk1, hl, hw, wk, Sp.row, spE_dec]) | (refine Also.intro ?_ fun _ => ?_) | (refine Hold.intro fun _ => ?_) | (refine And.intro ?_ ?_))
      refine ⟨k + 1, tle_chain rfl ?_, HLe.refl _, ⟨by omega, fun j h hj => ?_⟩, by omega⟩
      · simp [okAll, okv]
      · by_cases hjk : j = k
        · subst hjk; exact hw
        · exact hall j h (by omega)
    · have hz := idxZ_at l spN hk1 hw hall
      simp -dsimp [hki]
      repeat' (first | omega | (simp -dsimp [E125, ri, cellp, ints, hki, hk1, hl, hw, wk, hz, Sp.row, spE_dec]) | (refine Also.intro ?_ fun _ => ?_) | (refine Hold.intro fun _ => ?_) | (refine And.intro ?_ ?_))
  · have hkn : ¬ (k : Int) < l.length := by omega
    have hz := idxZ_none l spN (fun j h => hall j h (by omega))
    simp -dsimp [hkn]
    repeat' (first | omega | (simp -dsimp [E125, ri, cellp, ints, hkn, hz]) | (refine Also.intro ?_ fun _ => ?_) | (refine Hold.intro fun _ => ?_) | (refine And.intro ?_ ?_))
theorem ok125 : FnOK Tryd.prog 125 (.pure spsixS) := pure_fn (E := E125) rfl (.cons ok113 .nil) (ok := []) (fn := Tryd.f125) (by kernel_rfl) (by kernel_rfl) (by kernel_rfl) (by kernel_rfl) rfl (fun _ _ => by simp) b125
noncomputable abbrev E112 : Env := { P := Tryd.prog, fn := tbl [(125, .pure spsixS)], own := [], key := 11200, nt := 9 }
theorem b112 : PureBody E112 [] Tryd.f112 spsanS := by
  refine pb ?_
  rintro l hl
  have hl : l.length ≤ 1000000 := hl
  have hz := idxZ_any l spN
  simp -dsimp [Tryd.f112, E112]
  repeat' (first | omega | (simp -dsimp [E112, ri, cellp, ints, hl, spssE_dec, hz]) | (refine Also.intro ?_ fun _ => ?_) | (refine Hold.intro fun _ => ?_) | (refine And.intro ?_ ?_))
theorem ok112 : FnOK Tryd.prog 112 (.pure spsanS) := pure_fn (E := E112) rfl (.cons ok125 .nil) (ok := []) (fn := Tryd.f112) (by kernel_rfl) (by kernel_rfl) (by kernel_rfl) (by kernel_rfl) rfl (fun _ _ => by simp) b112
@[simp] def slE (d : List Sp) : List V := [.sl 2 (d.map Sp.row)]
theorem slE_inj (a b : List Sp) (h : slE a = slE b) : a = b := by
  simp only [slE, List.cons.injEq, V.sl.injEq, true_and, and_true] at h
  exact mapRow_inj Sp.row_inj h
theorem slE_dec (l : List Sp) : decC slE [.sl 2 (l.map Sp.row)] = l := decC_eq slE_inj l
theorem slE_dec1 (f : Sp) : decC slE [.sl 2 [[.int .i64 f.lo, .int .i64 f.hi]]] = [f] := decC_eq slE_inj [f]
noncomputable abbrev spdS : PSpec := mkP slE (fun d => d.length ≤ 1000000) fun d => .int .i64 (if d.any spN = true then 10 else 0)
noncomputable abbrev E80 : Env := { P := Tryd.prog, fn := tbl [(112, .pure spsanS)], own := [], key := 8000, nt := 5 }
theorem b80 : PureBody E80 [] Tryd.f80 spdS := by
  refine pb ?_
  rintro l hl
  have hl : l.length ≤ 1000000 := hl
  generalize h1 : l.any spN = b
  cases b
  · simp -dsimp [Tryd.f80, E80]
    repeat' (first | omega | (simp -dsimp [E80, ri, cellp, ints, hl, h1, spssE_dec]) | (refine Also.intro ?_ fun _ => ?_) | (refine Hold.intro fun _ => ?_) | (refine And.intro ?_ ?_))
  · simp -dsimp [Tryd.f80, E80]
    repeat' (first | omega | (simp -dsimp [E80, ri, cellp, ints, hl, h1, spssE_dec]) | (refine Also.intro ?_ fun _ => ?_) | (refine Hold.intro fun _ => ?_) | (refine And.intro ?_ ?_))
theorem ok80 : FnOK Tryd.prog 80 (.pure spdS) := pure_fn (E := E80) rfl (.cons ok112 .nil) (ok := []) (fn := Tryd.f80) (by kernel_rfl) (by kernel_rfl) (by kernel_rfl) (by kernel_rfl) rfl (fun _ _ => by simp) b80
noncomputable abbrev bxkS : PSpec := mkP slE (fun d => d.length ≤ 1000000) fun d => .int .i64 (if withinB d.length 1 3 = true ∧ d.any spN = false then 0 else 10)
noncomputable abbrev E53 : Env := { P := Tryd.prog, fn := tbl [(79, .pure withinS), (80, .pure spdS)], own := [], key := 5300, nt := 9 }
theorem b53 : PureBody E53 [] Tryd.f53 bxkS := by
  refine pb ?_
  rintro l hl
  have hl : l.length ≤ 1000000 := hl
  generalize h1 : l.any spN = b
  generalize h2 : withinB l.length 1 3 = c
  cases b <;> cases c
  all_goals
    simp -dsimp [Tryd.f53, E53]
    repeat' (first | omega | (simp -dsimp [E53, ri, cellp, ints, hl, h1, h2, slE_dec]) | (refine Also.intro ?_ fun _ => ?_) | (refine Hold.intro fun _ => ?_) | (refine And.intro ?_ ?_))
theorem ok53 : FnOK Tryd.prog 53 (.pure bxkS) := pure_fn (E := E53) rfl (.cons ok79 (.cons ok80 .nil)) (ok := []) (fn := Tryd.f53) (by kernel_rfl) (by kernel_rfl) (by kernel_rfl) (by kernel_rfl) rfl (fun _ _ => by simp) b53

end Go.Sx
end
