/- A part of a proof; no conditions. -/
import Derived.Test.YtnpdjaikmdagmaaP10
import Derived.Test.YtnpdjaikmdagmaaP11
import Derived.Test.YtnpdjaikmdagmaaP12
set_option linter.unusedSimpArgs false
set_option linter.unusedVariables false
set_option linter.unusedSectionVars false
section
/- Crew: numbers within bounds, rosters. No conditions. -/
set_option linter.unusedSimpArgs false
set_option linter.unusedSectionVars false
set_option maxRecDepth 100000
set_option maxHeartbeats 1000000
namespace Go.Sx
open Go.Proofs

instance : Gls := ⟨fun _ => none⟩
def withinB (n lo hi : Int) : Bool := decide (lo ≤ n ∧ n ≤ hi)
abbrev withinS : PSpec := { dom := Int × Int × Int, enc := fun d => [.int .i64 d.1, .int .i64 d.2.1, .int .i64 d.2.2], dec := fun l => ((l.getD 0 .top).toInt, (l.getD 1 .top).toInt, (l.getD 2 .top).toInt), pre := fun _ => True, res := fun d => .bool (withinB d.1 d.2.1 d.2.2) }
noncomputable abbrev E42 : Env := { P := Try.prog, fn := tbl [], own := [], key := 4200, nt := 15 }
theorem b42 : PureBody E42 [] Try.f42 withinS := by
  refine pb ?_
  rintro ⟨n, lo, hi⟩ _
  simp -dsimp [Try.f42, E42, withinB]
  repeat' (first | omega | (simp -dsimp [E42, ri, cellp, ints, withinB]) | (refine Also.intro ?_ fun _ => ?_) | (refine Hold.intro fun _ => ?_) | (refine And.intro ?_ ?_))
theorem ok42 : FnOK Try.prog 42 (.pure withinS) := pure_fn (E := E42) rfl LOK.nil (ok := []) (fn := Try.f42) (by kernel_rfl) (by kernel_rfl) (by kernel_rfl) (by kernel_rfl) rfl (fun _ _ => by simp) b42
def cellp (n : Int) : V := .ip 1 [[.int .i64 n]] 0 0
abbrev int1S (f : Int → Bool) : PSpec := { dom := Int, enc := fun d => [.int .i64 d], dec := fun l => (l.getD 0 .top).toInt, pre := fun _ => True, res := fun d => .bool (f d) }
abbrev timeS : PSpec := int1S fun n => withinB n 0 2000
noncomputable abbrev E38 : Env := { P := Try.prog, fn := tbl [(42, .pure withinS)], own := [], key := 3800, nt := 5 }
theorem b38 : PureBody E38 [] Try.f38 timeS := by
  refine pb ?_
  rintro n _
  simp -dsimp [Try.f38, E38]
  repeat' (first | omega | (simp -dsimp [E38, ri, cellp, ints, *]) | (refine Also.intro ?_ fun _ => ?_) | (refine Hold.intro fun _ => ?_) | (refine And.intro ?_ ?_))
theorem ok38 : FnOK Try.prog 38 (.pure timeS) := pure_fn (E := E38) rfl (.cons ok42 .nil) (ok := []) (fn := Try.f38) (by kernel_rfl) (by kernel_rfl) (by kernel_rfl) (by kernel_rfl) rfl (fun _ _ => by simp) b38
noncomputable abbrev E77 : Env := { P := Try.prog, fn := tbl [(42, .pure withinS)], own := [], key := 7700, nt := 5 }
theorem b77 : PureBody E77 [] Try.f77 (int1S fun n => withinB n 1 2000) := by
  refine pb ?_
  rintro n _
  simp -dsimp [Try.f77, E77]
  repeat' (first | omega | (simp -dsimp [E77, ri, cellp, ints, *]) | (refine Also.intro ?_ fun _ => ?_) | (refine Hold.intro fun _ => ?_) | (refine And.intro ?_ ?_))
theorem ok77 : FnOK Try.prog 77 (.pure (int1S fun n => withinB n 1 2000)) := pure_fn (E := E77) rfl (.cons ok42 .nil) (ok := []) (fn := Try.f77) (by kernel_rfl) (by kernel_rfl) (by kernel_rfl) (by kernel_rfl) rfl (fun _ _ => by simp) b77
abbrev strS : PSpec := { dom := Int × Int, enc := fun d => [.int .i64 d.1, .int .i64 d.2], dec := fun l => ((l.getD 0 .top).toInt, (l.getD 1 .top).toInt), pre := fun _ => True, res := fun d => .bool (strW d.1 d.2) }
noncomputable abbrev E55 : Env := { P := Try.prog, fn := tbl [(42, .pure withinS)], own := [], key := 5500, nt := 13 }
theorem b55 : PureBody E55 [] Try.f55 strS := by
  refine pb ?_
  rintro ⟨a, b⟩ _
  have e : strW a b = (withinB a 0 (wr (b - 1)) && decide (b ≤ 2000)) := rfl
  simp -dsimp [Try.f55, E55, e, wr]
theorem ok55 : FnOK Try.prog 55 (.pure strS) := pure_fn (E := E55) rfl (.cons ok42 .nil) (ok := []) (fn := Try.f55) (by kernel_rfl) (by kernel_rfl) (by kernel_rfl) (by kernel_rfl) rfl (fun _ _ => by simp) b55

/-! a roster -/
@[simp] def pnE (p : Pn) : List V := [.agg p.row]
theorem pnE_inj (a b : Pn) (h : pnE a = pnE b) : a = b := Pn.row_inj _ _ (by simpa using h)
theorem pnE_dec (p : Pn) : decC pnE [.agg [.int .i64 p.rat, .int .i64 p.rank, .int .i64 p.dive]] = p := decC_eq pnE_inj p
def Pn.bad (p : Pn) : Bool := !p.ok
noncomputable abbrev pnS : PSpec := mkP pnE (fun _ => True) fun p => .bool p.bad
theorem pn_ok (p : Pn) : p.bad = !(withinB p.rat 0 255 && withinB p.rank 0 3 && withinB p.dive 0 2000) := rfl
noncomputable abbrev E76 : Env := { P := Try.prog, fn := tbl [(42, .pure withinS), (38, .pure timeS)], own := [], key := 7600, nt := 19 }
theorem b76 : PureBody E76 [] Try.f76 pnS := by
  refine pb ?_
  rintro ⟨a, b, c⟩ _
  simp -dsimp [Try.f76, E76, pn_ok, Pn.row]
theorem ok76 : FnOK Try.prog 76 (.pure pnS) := pure_fn (E := E76) rfl (.cons ok42 (.cons ok38 .nil)) (ok := []) (fn := Try.f76) (by kernel_rfl) (by kernel_rfl) (by kernel_rfl) (by kernel_rfl) rfl (fun _ _ => by simp) b76
@[simp] def pnsE (d : List Pn) : List V := [.sl 3 (d.map Pn.row), .fn 76 []]
theorem pnsE_inj (a b : List Pn) (h : pnsE a = pnsE b) : a = b := by
  simp only [pnsE, List.cons.injEq, V.sl.injEq, true_and, and_true] at h
  exact mapRow_inj Pn.row_inj h
theorem pnsE_dec (l : List Pn) : decC pnsE [.sl 3 (l.map Pn.row), .fn 76 []] = l := decC_eq pnsE_inj l
noncomputable abbrev pnixS : PSpec := mkP pnsE (fun d => d.length ≤ 1000000) fun d => .int .i64 (idxZ d Pn.bad)
noncomputable abbrev pnanS : PSpec := mkP pnsE (fun d => d.length ≤ 1000000) fun d => .bool (d.any Pn.bad)
noncomputable abbrev E99 : Env := { P := Try.prog, fn := tbl [(76, .pure pnS)], own := [], key := 9900, nt := 19 }
theorem b99 : PureBody E99 [] Try.f99 pnixS := by
  refine pb ?_
  rintro l hl
  have hl : l.length ≤ 1000000 := hl
  simp -dsimp [Try.f99, E99]
  refine awp_loop [9, 10, 5, 11, 12, 13, 14, 15, 16, 17, 4, 18, 8] (fun k : { k : Nat // k ≤ l.length ∧ ∀ j (h : j < l.length), j < k → Pn.bad l[j] = false } => [(8, (true, .int .i64 k.1))]) (fun _ => noH) (fun k => l.length - k.1) ⟨0, by omega, fun _ _ h => by omega⟩ ?_ (HLe.refl _) ?_
  · simp [okAll, okv]
  rintro ⟨k, hk, hall⟩
  by_cases hk1 : k < l.length
  · have hki : (k : Int) < l.length := by omega
    have wk : IntKind.wrap .i64 ((k : Int) + 1) = (k + 1 : Nat) := wrap_id (by omega) (by omega)
    cases hw : Pn.bad l[k]
    · simp -dsimp [hki]
      repeat' (first | omega | (simp -dsimp [E99, ri, cellp, ints, hki, hk1, hl, hw, wk, Pn.row, pnE_dec]) | (refine Also.intro ?_ fun _ => ?_) | (refine Hold.intro fun _ => ?_) | (refine And.intro ?_ ?_))
      refine ⟨k + 1, tle_chain rfl ?_, HLe.refl _, ⟨by omega, fun j h hj => ?_⟩, by omega⟩
      · simp [okAll, okv]
      · by_cases hjk : j = k
        · subst hjk; exact hw
        · exact hall j h (by omega)
    · have hz := idxZ_at l Pn.bad hk1 hw hall
      simp -dsimp [hki]
      repeat' (first | omega | (simp -dsimp [E99, ri, cellp, ints, hki, hk1, hl, hw, wk, hz, Pn.row, pnE_dec]) | (refine Also.intro ?_ fun _ => ?_) | (refine Hold.intro fun _ => ?_) | (refine And.intro ?_ ?_))
  · have hkn : ¬ (k : Int) < l.length := by omega
    have hz := idxZ_none l Pn.bad (fun j h => hall j h (by omega))
    simp -dsimp [hkn]
    repeat' (first | omega | (simp -dsimp [E99, ri, cellp, ints, hkn, hz]) | (refine Also.intro ?_ fun _ => ?_) | (refine Hold.intro fun _ => ?_) | (refine And.intro ?_ ?_))
theorem ok99 : FnOK Try.prog 99 (.pure pnixS) := pure_fn (E := E99) rfl (.cons ok76 .nil) (ok := []) (fn := Try.f99) (by kernel_rfl) (by kernel_rfl) (by kernel_rfl) (by kernel_rfl) rfl (fun _ _ => by simp) b99
noncomputable abbrev E78 : Env := { P := Try.prog, fn := tbl [(99, .pure pnixS)], own := [], key := 7800, nt := 9 }
theorem b78 : PureBody E78 [] Try.f78 pnanS := by
  refine pb ?_
  rintro l hl
  have hl : l.length ≤ 1000000 := hl
  have hz := idxZ_any l Pn.bad
  simp -dsimp [Try.f78, E78]
  repeat' (first | omega | (simp -dsimp [E78, ri, cellp, ints, hl, pnsE_dec, hz]) | (refine Also.intro ?_ fun _ => ?_) | (refine Hold.intro fun _ => ?_) | (refine And.intro ?_ ?_))
theorem ok78 : FnOK Try.prog 78 (.pure pnanS) := pure_fn (E := E78) rfl (.cons ok99 .nil) (ok := []) (fn := Try.f78) (by kernel_rfl) (by kernel_rfl) (by kernel_rfl) (by kernel_rfl) rfl (fun _ _ => by simp) b78
@[simp] def roE (r : Ro) : List V := [.agg r.row]
theorem roE_inj (a b : Ro) (h : roE a = roE b) : a = b := Ro.row_inj _ _ (by simpa using h)
theorem roE_dec (r : Ro) : decC roE [.agg [.sl 3 (r.ppl.map Pn.row), .int .i64 r.lng, .int .i64 r.rst, .int .i64 r.win, .int .i64 r.tot, .int .i64 r.rcn]] = r := decC_eq roE_inj r
noncomputable abbrev rosS : PSpec := mkP roE (fun d => d.ppl.length ≤ 1000000) fun d => .int .i64 (if d.ok = true then 0 else 100)
theorem ro_ok (r : Ro) : r.ok = (decide (r.ppl.length ≤ 12) && !(r.ppl.any Pn.bad) && withinB r.lng 1 2000 && withinB r.rst 0 2000 && withinB r.win 1 2000 && withinB r.rcn 1 2000 && withinB r.tot 1 r.win) := by
  have h : r.ppl.all Pn.ok = !(r.ppl.any Pn.bad) := by rw [List.not_any_eq_all_not]; congr 1; funext p; simp [Pn.bad]
  rw [Ro.ok, h]; rfl
noncomputable abbrev E54 : Env := { P := Try.prog, fn := tbl [(42, .pure withinS), (38, .pure timeS), (77, .pure (int1S fun n => withinB n 1 2000)), (78, .pure pnanS)], own := [], key := 5400, nt := 50 }
theorem b54 : PureBody E54 [] Try.f54 rosS := by
  refine pb ?_
  rintro r hl
  have hl : r.ppl.length ≤ 1000000 := hl
  have hr := ro_ok r
  generalize hA : r.ppl.any Pn.bad = a at hr
  generalize h2 : withinB r.lng 1 2000 = b at hr
  generalize h3 : withinB r.rst 0 2000 = c at hr
  generalize h4 : withinB r.win 1 2000 = d at hr
  generalize h5 : withinB r.rcn 1 2000 = e at hr
  generalize h6 : withinB r.tot 1 r.win = f at hr
  by_cases h0 : r.ppl.length ≤ 12
  · have e0 : ((12 : Int) < r.ppl.length) = False := eq_false (by omega)
    have e1 : (r.ppl.length ≤ 12) = True := eq_true h0
    simp -dsimp only [e1, decide_true, Bool.true_and] at hr
    simp -dsimp [Try.f54, E54, Ro.row, pplV]
    repeat' (first | omega | (simp -dsimp [E54, ri, cellp, ints, e0, hA, hl, pnsE_dec, h2, h3, h4, h5, h6, hr]) | (refine Also.intro ?_ fun _ => ?_) | (refine Hold.intro fun _ => ?_) | (refine And.intro ?_ ?_))
    all_goals (clear hr hA h2 h3 h4 h5 h6 hl; cases a <;> cases b <;> cases c <;> cases d <;> cases e <;> cases f <;> simp_all)
  · have e0 : ((12 : Int) < r.ppl.length) = True := eq_true (by omega)
    have e1 : (r.ppl.length ≤ 12) = False := eq_false h0
    simp -dsimp only [e1, decide_false, Bool.false_and] at hr
    simp -dsimp [Try.f54, E54, Ro.row, pplV]
    repeat' (first | omega | (simp -dsimp [E54, ri, cellp, ints, e0, hA, hl, pnsE_dec, hr]) | (refine Also.intro ?_ fun _ => ?_) | (refine Hold.intro fun _ => ?_) | (refine And.intro ?_ ?_))
theorem ok54 : FnOK Try.prog 54 (.pure rosS) := pure_fn (E := E54) rfl (.cons ok42 (.cons ok38 (.cons ok77 (.cons ok78 .nil)))) (ok := []) (fn := Try.f54) (by kernel_rfl) (by kernel_rfl) (by kernel_rfl) (by kernel_rfl) rfl (fun _ _ => by simp) b54
end Go.Sx
end
section
/- Pages: hours by the number of pages that they are on. No conditions. -/
set_option linter.unusedSimpArgs false
set_option linter.unusedSectionVars false
namespace Go.Sx

structure Sp where
  lo : Int
  hi : Int
  deriving DecidableEq, Inhabited
def Sp.row (s : Sp) : List V := [.int .i64 s.lo, .int .i64 s.hi]
theorem Sp.row_inj (a b : Sp) (h : a.row = b.row) : a = b := by
  cases a; cases b; simp [Sp.row] at h; simp [h]
def Sp.has (s : Sp) (h : Int) : Bool := decide (s.lo ≤ h) && decide (h ≤ s.hi)
/-- On how many of the first pages an hour is. -/
def manyTo (pg : List Sp) (h : Int) : Nat → Nat
  | 0 => 0
  | k + 1 => manyTo pg h k + if (pg.getD k default).has h = true then 1 else 0
def many (pg : List Sp) (h : Int) : Nat := manyTo pg h pg.length
theorem manyTo_le (pg : List Sp) (h : Int) : ∀ k, manyTo pg h k ≤ k
  | 0 => Nat.le_refl _
  | k + 1 => by
    have := manyTo_le pg h k
    simp only [manyTo]; split <;> omega
/-- The fewest spans of the hours that are so. -/
def rns (f : Nat → Bool) : Nat → List Sp
  | 0 => []
  | h + 1 => if f h = true then (match (rns f h).getLast? with
      | some s => if s.hi = (h : Int) - 1 then (rns f h).dropLast ++ [⟨s.lo, h⟩] else rns f h ++ [⟨h, h⟩]
      | none => [⟨h, h⟩]) else rns f h
theorem rns_no {f : Nat → Bool} {h : Nat} (hf : f h = false) : rns f (h + 1) = rns f h := by
  simp only [rns, hf]; rfl
theorem rns_nil {f : Nat → Bool} {h : Nat} (hf : f h = true) (hr : rns f h = []) : rns f (h + 1) = [⟨h, h⟩] := by
  simp only [rns, hf, hr]; rfl
theorem rns_more {f : Nat → Bool} {h : Nat} {p : List Sp} {s : Sp} (hf : f h = true) (hr : rns f h = p ++ [s]) (hs : s.hi = (h : Int) - 1) : rns f (h + 1) = p ++ [⟨s.lo, h⟩] := by
  simp [rns, hf, hr, hs]
theorem rns_new {f : Nat → Bool} {h : Nat} {p : List Sp} {s : Sp} (hf : f h = true) (hr : rns f h = p ++ [s]) (hs : ¬ s.hi = (h : Int) - 1) : rns f (h + 1) = p ++ [s] ++ [⟨h, h⟩] := by
  simp [rns, hf, hr, hs]
theorem snoc_cases {α : Type} (l : List α) : l = [] ∨ ∃ p s, l = p ++ [s] := by
  cases h : l.reverse with
  | nil => left; simpa using h
  | cons a r => right; exact ⟨r.reverse, a, by have := congrArg List.reverse h; simpa using this⟩
theorem rns_len (f : Nat → Bool) : ∀ h, (rns f h).length ≤ h
  | 0 => by simp [rns]
  | h + 1 => by
    have ih := rns_len f h
    cases hf : f h
    · rw [rns_no hf]; omega
    · rcases snoc_cases (rns f h) with e | ⟨p, s, e⟩
      · rw [rns_nil hf e]; simp
      · rw [e] at ih
        simp at ih
        by_cases hs : s.hi = (h : Int) - 1
        · rw [rns_more hf e hs]; simp; omega
        · rw [rns_new hf e hs]; simp; omega
theorem rns_congr {f g : Nat → Bool} : ∀ h, (∀ i, i < h → f i = g i) → rns f h = rns g h
  | 0, _ => rfl
  | h + 1, hfg => by simp only [rns, rns_congr h fun i hi => hfg i (by omega), hfg h (by omega)]
/-- By how much the number of pages changes at an hour. -/
def chTo (hrs : Nat) (pg : List Sp) : Nat → List Int
  | 0 => List.replicate (hrs + 1) 0
  | k + 1 => let c := chTo hrs pg k
    let a := (pg.getD k default).lo.toNat
    let b := ((pg.getD k default).hi + 1).toNat
    let c1 := c.set a (c.getD a 0 + 1)
    c1.set b (c1.getD b 0 - 1)
theorem chTo_len (hrs : Nat) (pg : List Sp) : ∀ k, (chTo hrs pg k).length = hrs + 1
  | 0 => by simp [chTo]
  | k + 1 => by simp only [chTo, List.length_set]; exact chTo_len hrs pg k
def psum (c : List Int) : Nat → Int
  | 0 => 0
  | h + 1 => psum c h + c.getD h 0
theorem psum_set (c : List Int) (a : Nat) (x : Int) (ha : a < c.length) : ∀ h, psum (c.set a x) h = psum c h + if a < h then x - c.getD a 0 else 0
  | 0 => by simp [psum]
  | h + 1 => by
    simp only [psum, psum_set c a x ha h]
    by_cases e : a = h
    · subst e
      have : (c.set a x).getD a 0 = x := by simp [List.getD, ha]
      rw [this, if_neg (by omega), if_pos (by omega)]; omega
    · have : (c.set a x).getD h 0 = c.getD h 0 := by simp [List.getD, List.getElem?_set_ne e]
      rw [this]
      by_cases hlt : a < h
      · rw [if_pos hlt, if_pos (by omega)]; omega
      · rw [if_neg hlt, if_neg (by omega)]; omega
theorem psum_zero (n : Nat) : ∀ h, psum (List.replicate n (0 : Int)) h = 0
  | 0 => rfl
  | h + 1 => by
    rw [psum, psum_zero n h]
    simp only [List.getD, List.getElem?_replicate]
    split <;> rfl
theorem psum_many {hrs : Nat} {pg : List Sp} (hp : ∀ p ∈ pg, 0 ≤ p.lo ∧ p.lo ≤ p.hi ∧ p.hi ≤ (hrs : Int) - 1) : ∀ k h, k ≤ pg.length → h < hrs → psum (chTo hrs pg k) (h + 1) = (manyTo pg h k : Nat)
  | 0, h, _, _ => by rw [chTo, psum_zero]; rfl
  | k + 1, h, hk, hh => by
    have ih := psum_many hp k h (by omega) hh
    have hkl : k < pg.length := by omega
    have hb := hp (pg.getD k default) (by simp [List.getD, hkl])
    generalize hP : pg.getD k default = p at *
    have hl := chTo_len hrs pg k
    have e0 : chTo hrs pg (k + 1) = ((chTo hrs pg k).set p.lo.toNat ((chTo hrs pg k).getD p.lo.toNat 0 + 1)).set (p.hi + 1).toNat (((chTo hrs pg k).set p.lo.toNat ((chTo hrs pg k).getD p.lo.toNat 0 + 1)).getD (p.hi + 1).toNat 0 - 1) := by
      simp only [chTo, hP]
    rw [e0, psum_set _ _ _ (by rw [List.length_set]; omega), psum_set _ _ _ (by omega), ih]
    have e1 : manyTo pg h (k + 1) = manyTo pg h k + if p.has h = true then 1 else 0 := by simp only [manyTo, hP]
    rw [e1]
    by_cases h1 : p.lo ≤ (h : Int)
    · rw [if_pos (show p.lo.toNat < h + 1 by omega)]
      by_cases h2 : (h : Int) ≤ p.hi
      · have : p.has h = true := by simp [Sp.has, h1, h2]
        rw [if_pos this, if_neg (show ¬ (p.hi + 1).toNat < h + 1 by omega)]; omega
      · have : ¬ p.has h = true := by simp [Sp.has, h2]
        rw [if_neg this, if_pos (show (p.hi + 1).toNat < h + 1 by omega)]; omega
    · rw [if_neg (show ¬ p.lo.toNat < h + 1 by omega)]
      have : ¬ p.has h = true := by simp [Sp.has, h1]
      rw [if_neg this, if_neg (show ¬ (p.hi + 1).toNat < h + 1 by omega)]; omega
theorem chTo_bd {hrs : Nat} {pg : List Sp} : ∀ (k i : Nat), -(k : Int) ≤ (chTo hrs pg k).getD i 0 ∧ (chTo hrs pg k).getD i 0 ≤ k
  | 0, i => by simp only [chTo, List.getD, List.getElem?_replicate]; split <;> simp
  | k + 1, i => by
    have ih := chTo_bd (hrs := hrs) (pg := pg) k
    have st : ∀ (c : List Int) (a j : Nat) (x : Int), (c.set a x).getD j 0 = x ∨ (c.set a x).getD j 0 = c.getD j 0 ∨ (c.set a x).getD j 0 = 0 := by
      intro c a j x
      simp only [List.getD, List.getElem?_set]
      split
      · split
        · left; rfl
        · right; right; rfl
      · right; left; rfl
    simp only [chTo]
    generalize chTo hrs pg k = c at *
    generalize (pg.getD k default).lo.toNat = a
    generalize ((pg.getD k default).hi + 1).toNat = b
    have iha := ih a
    have ihb := ih b
    have ihi := ih i
    have f1 := fun j => st c a j (c.getD a 0 + 1)
    have g1 := f1 b
    have g2 := f1 i
    rcases st (c.set a (c.getD a 0 + 1)) b i ((c.set a (c.getD a 0 + 1)).getD b 0 - 1) with h | h | h <;> rw [h] <;> omega
end Go.Sx
end
section
/- Crew, plain: cabins, guests, seatings, what they weigh; the first balanced seating. No conditions. -/
set_option linter.unusedSimpArgs false
set_option linter.unusedSectionVars false
namespace Go.Sx

structure Se where
  arm : Int
  ex : Bool
  deriving DecidableEq, Inhabited
def Se.row (s : Se) : List V := [.int .i64 s.arm, .bool s.ex]
theorem Se.row_inj (a b : Se) (h : a.row = b.row) : a = b := by
  cases a; cases b; simp [Se.row] at h; simp [h]
structure Gu where
  w : Int
  suit : Bool
  dive : Int
  able : Bool
  deriving DecidableEq, Inhabited
def Gu.row (g : Gu) : List V := [.int .i64 g.w, .bool g.suit, .int .i64 g.dive, .bool g.able]
theorem Gu.row_inj (a b : Gu) (h : a.row = b.row) : a = b := by
  cases a; cases b; simp [Gu.row] at h; simp [h]
structure Ca where
  emp : Int
  arm : Int
  st : List Se
  farm : Int
  low : Int
  high : Int
  deriving DecidableEq, Inhabited
def Ca.row (c : Ca) : List V := [.int .i64 c.emp, .int .i64 c.arm, .sl 2 (c.st.map Se.row), .int .i64 c.farm, .int .i64 c.low, .int .i64 c.high]
theorem Ca.row_inj (a b : Ca) (h : a.row = b.row) : a = b := by
  cases a; cases b
  simp only [Ca.row, List.cons.injEq, V.sl.injEq, V.int.injEq, true_and, and_true] at h
  obtain ⟨h1, h2, h3, h4, h5, h6⟩ := h
  rw [mapRow_inj Se.row_inj h3, h1, h2, h4, h5, h6]
def gusV (l : List Gu) : V := .sl 4 (l.map Gu.row)

def armB (n : Int) : Bool := decide (-1000 ≤ n ∧ n ≤ 1000)
def Ca.ok (c : Ca) : Bool := decide (1 ≤ c.emp ∧ c.emp ≤ 100000) && decide (c.st.length ≤ 8) && decide (c.low ≤ c.high) && armB c.arm && armB c.farm && armB c.low && armB c.high && c.st.all fun s => armB s.arm
structure Ca.Fit (c : Ca) : Prop where
  emp : 1 ≤ c.emp ∧ c.emp ≤ 100000
  n : c.st.length ≤ 8
  lh : c.low ≤ c.high
  arm : -1000 ≤ c.arm ∧ c.arm ≤ 1000
  farm : -1000 ≤ c.farm ∧ c.farm ≤ 1000
  low : -1000 ≤ c.low ∧ c.low ≤ 1000
  high : -1000 ≤ c.high ∧ c.high ≤ 1000
  st : ∀ s ∈ c.st, -1000 ≤ s.arm ∧ s.arm ≤ 1000
theorem Ca.ok_iff {c : Ca} : c.ok = true ↔ c.Fit := by
  unfold Ca.ok armB
  simp only [Bool.and_eq_true, decide_eq_true_eq, List.all_eq_true]
  constructor
  · rintro ⟨⟨⟨⟨⟨⟨⟨h1, h2⟩, h3⟩, h4⟩, h5⟩, h6⟩, h7⟩, h8⟩
    exact ⟨h1, h2, h3, h4, h5, h6, h7, h8⟩
  · rintro ⟨h1, h2, h3, h4, h5, h6, h7, h8⟩
    exact ⟨⟨⟨⟨⟨⟨⟨h1, h2⟩, h3⟩, h4⟩, h5⟩, h6⟩, h7⟩, h8⟩
def Gu.ok (g : Gu) : Bool := decide (1 ≤ g.w ∧ g.w ≤ 500) && decide (0 ≤ g.dive ∧ g.dive ≤ 2000)
def gueE (l : List Gu) (room : Int) : Int := if room < l.length then 2 else if l.all Gu.ok = true then 0 else 103
def spnE (f : Sp) : Int := if -1000000 ≤ f.lo ∧ f.lo ≤ f.hi ∧ f.hi ≤ 1000000 ∧ 0 ≤ f.lo ∧ f.hi ≤ 100000 then 0 else 10
def lodE (c : Ca) (l : List Gu) (f : Sp) : Int := if c.ok = true then (if gueE l c.st.length = 0 then spnE f else gueE l c.st.length) else 102
structure LFit (c : Ca) (l : List Gu) (f : Sp) : Prop where
  cf : c.Fit
  n : l.length ≤ c.st.length
  gf : ∀ g ∈ l, 1 ≤ g.w ∧ g.w ≤ 500
  ff : 0 ≤ f.lo ∧ f.lo ≤ f.hi ∧ f.hi ≤ 100000
theorem lodE_zero {c : Ca} {l : List Gu} {f : Sp} (h : lodE c l f = 0) : LFit c l f := by
  unfold lodE at h
  split at h
  · rename_i h1
    split at h
    · rename_i h2
      unfold spnE at h
      split at h
      · rename_i h3
        unfold gueE at h2
        split at h2
        · omega
        · rename_i h4
          split at h2
          · rename_i h5
            refine ⟨Ca.ok_iff.1 h1, by omega, fun g hg => ?_, by omega⟩
            have := List.all_eq_true.1 h5 g hg
            simp [Gu.ok] at this; exact this.1
          · omega
      · omega
    · omega
  · omega

/-! weights and moments -/
def guAt (l : List Gu) (i : Nat) : Gu := l.getD i default
def armAt (c : Ca) (s : List Int) (i : Nat) : Int := (c.st.getD (s.getD i 0).toNat default).arm
def wTo (l : List Gu) : Nat → Int
  | 0 => 0
  | k + 1 => wTo l k + (guAt l k).w
def mTo (c : Ca) (l : List Gu) (s : List Int) : Nat → Int
  | 0 => 0
  | k + 1 => mTo c l s k + (guAt l k).w * armAt c s k
def wgt (c : Ca) (l : List Gu) (f : Int) : Int := c.emp + wTo l l.length + f
def mom (c : Ca) (l : List Gu) (s : List Int) (f : Int) : Int := c.emp * c.arm + mTo c l s l.length + f * c.farm
theorem guAt_bd {l : List Gu} (h : ∀ g ∈ l, 1 ≤ g.w ∧ g.w ≤ 500) {k : Nat} (hk : k < l.length) : 1 ≤ (guAt l k).w ∧ (guAt l k).w ≤ 500 := by
  have : guAt l k = l[k] := by simp [guAt, List.getD, hk]
  rw [this]; exact h _ (List.getElem_mem hk)
theorem wTo_bd {l : List Gu} (h : ∀ g ∈ l, 1 ≤ g.w ∧ g.w ≤ 500) : ∀ k, k ≤ l.length → 0 ≤ wTo l k ∧ wTo l k ≤ 500 * k
  | 0, _ => by simp [wTo]
  | k + 1, hk => by
    have ih := wTo_bd h k (by omega)
    have := guAt_bd h (k := k) (by omega)
    rw [wTo]; omega
theorem mul_bd {a b A B : Int} (h1 : 0 ≤ a ∧ a ≤ A) (h2 : -B ≤ b ∧ b ≤ B) : -(A * B) ≤ a * b ∧ a * b ≤ A * B := by
  have hB : 0 ≤ B := by omega
  have e1 : a * b ≤ a * B := Int.mul_le_mul_of_nonneg_left h2.2 h1.1
  have e2 : a * B ≤ A * B := Int.mul_le_mul_of_nonneg_right h1.2 hB
  have e3 : a * -B ≤ a * b := Int.mul_le_mul_of_nonneg_left h2.1 h1.1
  rw [Int.mul_neg] at e3
  omega
theorem armAt_bd {c : Ca} (h : c.Fit) (s : List Int) (i : Nat) : -1000 ≤ armAt c s i ∧ armAt c s i ≤ 1000 := by
  unfold armAt
  generalize (s.getD i 0).toNat = k
  by_cases hk : k < c.st.length
  · have : c.st.getD k default = c.st[k] := by simp [List.getD, hk]
    rw [this]; exact h.st _ (List.getElem_mem hk)
  · have : c.st.getD k default = default := by simp [List.getD, List.getElem?_eq_none (Nat.le_of_not_lt hk)]
    rw [this, show (default : Se).arm = 0 from rfl]; omega
theorem mTo_bd {c : Ca} (hc : c.Fit) {l : List Gu} (h : ∀ g ∈ l, 1 ≤ g.w ∧ g.w ≤ 500) (s : List Int) : ∀ k, k ≤ l.length → -(500000 * (k : Int)) ≤ mTo c l s k ∧ mTo c l s k ≤ 500000 * k
  | 0, _ => by simp [mTo]
  | k + 1, hk => by
    have ih := mTo_bd hc h s k (by omega)
    have h1 := guAt_bd h (k := k) (by omega)
    have h2 := mul_bd (a := (guAt l k).w) (A := 500) (by omega) (armAt_bd hc s k)
    rw [mTo]; omega
/-- Whether the center lies within the limits, with the least and with the most fuel. -/
def ctB (c : Ca) (w m : Int) : Bool := decide (c.low * w ≤ m ∧ m ≤ c.high * w)
def balB (c : Ca) (l : List Gu) (f : Sp) (s : List Int) : Bool := ctB c (wgt c l f.lo) (mom c l s f.lo) && ctB c (wgt c l f.hi) (mom c l s f.hi)
def cenL (c : Ca) (l : List Gu) (f : Sp) (s : List Int) : Sp :=
  ⟨min (mom c l s f.lo / wgt c l f.lo) (mom c l s f.hi / wgt c l f.hi), max (-(-mom c l s f.lo / wgt c l f.lo)) (-(-mom c l s f.hi / wgt c l f.hi))⟩

/-! seatings -/
def sitsB (c : Ca) (g : Gu) (before : List Int) (s : Int) : Bool := decide (0 ≤ s ∧ s ≤ c.st.length - 1) && !before.contains s && (g.able || !(c.st.getD s.toNat default).ex)
def seatOk (c : Ca) (l : List Gu) (s : List Int) (i : Nat) : Bool := sitsB c (guAt l i) (s.take i) (s.getD i 0)
def rightB (c : Ca) (l : List Gu) (s : List Int) : Bool := decide (s.length = l.length) && (List.range l.length).all fun i => seatOk c l s i
/-- The first balanced seating that begins so; the first number is how many guests are left. -/
def sitF (c : Ca) (l : List Gu) (f : Sp) : Nat → List Int → Option (List Int)
  | 0, b => if balB c l f b = true then some b else none
  | m + 1, b => (List.range c.st.length).findSome? fun s : Nat => if sitsB c (guAt l b.length) b s = true then sitF c l f m (b ++ [(s : Int)]) else none
def lexLe (a b : List Int) : Prop := a = b ∨ ∃ i, i < a.length ∧ i < b.length ∧ a.take i = b.take i ∧ a.getD i 0 < b.getD i 0
theorem seatOk_snoc {c : Ca} {l : List Gu} {b : List Int} {s : Int} {i : Nat} (hi : i < b.length) : seatOk c l (b ++ [s]) i = seatOk c l b i := by
  unfold seatOk
  rw [List.take_append_of_le_length (by omega)]
  congr 1
  simp [List.getD, List.getElem?_append_left hi]
theorem sitF_sound {c : Ca} {l : List Gu} {f : Sp} : ∀ (m : Nat) (b a : List Int), b.length + m = l.length → (∀ i, i < b.length → seatOk c l b i = true) → sitF c l f m b = some a → rightB c l a = true ∧ balB c l f a = true ∧ a.take b.length = b
  | 0, b, a, hm, hb, h => by
    rw [sitF] at h
    split at h
    · rename_i h1
      simp only [Option.some.injEq] at h
      subst h
      refine ⟨?_, h1, List.take_length ..⟩
      simp only [rightB, Bool.and_eq_true, decide_eq_true_eq, List.all_eq_true, List.mem_range]
      exact ⟨by omega, fun i hi => hb i (by omega)⟩
    · simp at h
  | m + 1, b, a, hm, hb, h => by
    rw [sitF] at h
    obtain ⟨s, _, h1⟩ := List.exists_of_findSome?_eq_some h
    split at h1
    · rename_i h2
      obtain ⟨k1, k2, k3⟩ := sitF_sound m (b ++ [(s : Int)]) a (by simp; omega) (fun i hi => by
        simp at hi
        by_cases hib : i < b.length
        · rw [seatOk_snoc hib]; exact hb i hib
        · have : i = b.length := by omega
          subst this
          unfold seatOk
          rw [List.take_left' rfl]
          simpa [List.getD] using h2) h1
      refine ⟨k1, k2, ?_⟩
      have := congrArg (List.take b.length) k3
      rw [List.take_take, List.take_left' rfl] at this
      simpa [Nat.min_eq_left] using this
    · simp at h1
theorem findSome_first {α : Type} (g : Nat → Option α) (n t : Nat) (ht : t < n) (hg : (g t).isSome = true) : ∃ s a, s ≤ t ∧ g s = some a ∧ (List.range n).findSome? g = some a ∧ ∀ j, j < s → g j = none := by
  have h1 : ((List.range n).findSome? g).isSome = true := List.findSome?_isSome_iff.2 ⟨t, by simpa using ht, hg⟩
  obtain ⟨a, ha⟩ := Option.isSome_iff_exists.1 h1
  obtain ⟨l1, s, l2, e, hs, hn⟩ := List.findSome?_eq_some_iff.1 ha
  have hlen : l1.length < n := by have := congrArg List.length e; simp at this; omega
  have hls : s = l1.length := by
    have := congrArg (fun l => l[l1.length]?) e
    simp [hlen] at this; omega
  have hall : ∀ j, j < s → g j = none := fun j hj => by
    refine hn j ?_
    have := congrArg (fun l => l[j]?) e
    rw [hls] at hj
    simp only [List.getElem?_range (show j < n by omega), List.getElem?_append_left hj] at this
    exact List.mem_of_getElem? this.symm
  refine ⟨s, a, ?_, hs, ha, hall⟩
  by_cases h : s ≤ t
  · exact h
  · rw [hall t (by omega)] at hg; cases hg
theorem sitF_first {c : Ca} {l : List Gu} {f : Sp} {t : List Int} (ht : rightB c l t = true) (hbal : balB c l f t = true) : ∀ (m : Nat) (b : List Int), b.length + m = l.length → b = t.take b.length → ∃ a, sitF c l f m b = some a ∧ (a = t ∨ ∃ i, b.length ≤ i ∧ i < a.length ∧ a.take i = t.take i ∧ a.getD i 0 < t.getD i 0)
  | 0, b, hm, hb => by
    simp only [rightB, Bool.and_eq_true, decide_eq_true_eq] at ht
    have : b = t := by rw [hb, List.take_of_length_le (by omega)]
    exact ⟨b, by rw [sitF, this, if_pos hbal], .inl this⟩
  | m + 1, b, hm, hb => by
    have ht' := ht
    simp only [rightB, Bool.and_eq_true, decide_eq_true_eq, List.all_eq_true, List.mem_range] at ht'
    have hk := ht'.2 b.length (by omega)
    have hlt : b.length < t.length := by omega
    unfold seatOk at hk
    rw [← hb] at hk
    generalize hs : t.getD b.length 0 = s at hk
    have hs0 : 0 ≤ s ∧ s ≤ c.st.length - 1 := by
      simp [sitsB] at hk; exact hk.1.1
    obtain ⟨q, rfl⟩ : ∃ q : Nat, s = q := ⟨s.toNat, by omega⟩
    have hts : t.take (b.length + 1) = b ++ [(q : Int)] := by
      rw [take_snoc t hlt, ← hb]
      congr 2
    obtain ⟨a0, h0, _⟩ := sitF_first ht hbal m (b ++ [(q : Int)]) (by simp <;> omega) (by rw [← hts]; simp <;> omega)
    obtain ⟨j, a, hj, ha, hall, _⟩ := findSome_first (fun s : Nat => if sitsB c (guAt l b.length) b s = true then sitF c l f m (b ++ [(s : Int)]) else none) c.st.length q (by omega) (by rw [if_pos hk, h0]; rfl)
    refine ⟨a, by rw [sitF]; exact hall, ?_⟩
    split at ha
    · rename_i hjs
      by_cases hjq : j = q
      · subst hjq
        obtain ⟨a1, h1, h2⟩ := sitF_first ht hbal m (b ++ [(j : Int)]) (by simp <;> omega) (by rw [← hts]; simp <;> omega)
        rw [ha] at h1
        simp only [Option.some.injEq] at h1
        subst h1
        rcases h2 with h2 | ⟨i, i1, i2, i3, i4⟩
        · exact .inl h2
        · exact .inr ⟨i, by simp at i1; omega, i2, i3, i4⟩
      · right
        -- a begins with b ++ [j]
        have hsd : ∀ (m : Nat) (b a : List Int), sitF c l f m b = some a → a.take b.length = b ∧ b.length ≤ a.length := by
          intro m
          induction m with
          | zero => intro b a h; rw [sitF] at h; split at h <;> simp at h; subst h; simp
          | succ m ih =>
            intro b a h
            rw [sitF] at h
            obtain ⟨s, _, h1⟩ := List.exists_of_findSome?_eq_some h
            split at h1
            · obtain ⟨k1, k2⟩ := ih _ _ h1
              have := congrArg (List.take b.length) k1
              rw [List.take_take, List.take_left' rfl] at this
              exact ⟨by simpa [Nat.min_eq_left] using this, by simp at k2; omega⟩
            · simp at h1
        obtain ⟨k1, k2⟩ := hsd _ _ _ ha
        have k2' : b.length + 1 ≤ a.length := by simpa using k2
        refine ⟨b.length, Nat.le_refl _, by omega, ?_, ?_⟩
        · have := congrArg (List.take b.length) k1
          rw [List.take_take, List.take_left' rfl] at this
          rw [← hb]
          simpa [Nat.min_eq_left] using this
        · have : a.getD b.length 0 = (j : Int) := by
            have h3 : (a.take (b ++ [(j : Int)]).length).getD b.length 0 = (b ++ [(j : Int)]).getD b.length 0 := by rw [k1]
            simp [List.getD, List.getElem?_take] at h3
            simpa [List.getD] using h3
          rw [this, hs]; omega
    · simp at ha
end Go.Sx
end
section
/- Crew: cabins, guests, loads. No conditions. -/
set_option linter.unusedSimpArgs false
set_option linter.unusedSectionVars false
set_option maxRecDepth 100000
set_option maxHeartbeats 2000000
namespace Go.Sx
open Go.Proofs
attribute [local irreducible] HLe

theorem ri_inj' (a b : Int) (h : ri a = ri b) : a = b := by simpa [ri] using h
def armN (n : Int) : Bool := !withinB n (-1000) 1000
abbrev armS : PSpec := int1S armN
noncomputable abbrev E94 : Env := { P := Try.prog, fn := tbl [(42, .pure withinS)], own := [], key := 9400, nt := 6 }
theorem b94 : PureBody E94 [] Try.f94 armS := by
  refine pb ?_
  rintro n _
  simp -dsimp [Try.f94, E94, armN]
  repeat' (first | omega | (simp -dsimp [E94, ri, cellp, ints, armN]) | (refine Also.intro ?_ fun _ => ?_) | (refine Hold.intro fun _ => ?_) | (refine And.intro ?_ ?_))
theorem ok94 : FnOK Try.prog 94 (.pure armS) := pure_fn (E := E94) rfl (.cons ok42 .nil) (ok := []) (fn := Try.f94) (by kernel_rfl) (by kernel_rfl) (by kernel_rfl) (by kernel_rfl) rfl (fun _ _ => by simp) b94
@[simp] def amsE (d : List Int) : List V := [.sl 1 (d.map ri), .fn 94 []]
theorem amsE_inj (a b : List Int) (h : amsE a = amsE b) : a = b := by
  simp only [amsE, List.cons.injEq, V.sl.injEq, true_and, and_true] at h
  exact mapRow_inj ri_inj' h
theorem amsE_dec (l : List Int) : decC amsE [.sl 1 (l.map ri), .fn 94 []] = l := decC_eq amsE_inj l
noncomputable abbrev amixS : PSpec := mkP amsE (fun d => d.length ≤ 1000000) fun d => .int .i64 (idxZ d armN)
noncomputable abbrev amanS : PSpec := mkP amsE (fun d => d.length ≤ 1000000) fun d => .bool (d.any armN)
noncomputable abbrev E103 : Env := { P := Try.prog, fn := tbl [(94, .pure armS)], own := [], key := 10300, nt := 19 }
theorem b103 : PureBody E103 [] Try.f103 amixS := by
  refine pb ?_
  rintro l hl
  have hl : l.length ≤ 1000000 := hl
  simp -dsimp [Try.f103, E103]
  refine awp_loop [9, 10, 5, 11, 12, 13, 14, 15, 16, 17, 4, 18, 8] (fun k : { k : Nat // k ≤ l.length ∧ ∀ j (h : j < l.length), j < k → armN l[j] = false } => [(8, (true, .int .i64 k.1))]) (fun _ => noH) (fun k => l.length - k.1) ⟨0, by omega, fun _ _ h => by omega⟩ ?_ (HLe.refl _) ?_
  · simp [okAll, okv]
  rintro ⟨k, hk, hall⟩
  by_cases hk1 : k < l.length
  · have hki : (k : Int) < l.length := by omega
    have wk : IntKind.wrap .i64 ((k : Int) + 1) = (k + 1 : Nat) := wrap_id (by omega) (by omega)
    cases hw : armN l[k]
    · simp -dsimp [hki]
      repeat' (first | omega | (simp -dsimp [E103, ri, cellp, ints, hki, hk1, hl, hw, wk, ri]) | (refine Also.intro ?_ fun _ => ?_) | (refine Hold.intro fun _ => ?_) | (refine And.intro ?_ ?_))
      refine ⟨k + 1, tle_chain rfl ?_, HLe.refl _, ⟨by omega, fun j h hj => ?_⟩, by omega⟩
      · simp [okAll, okv]
      · by_cases hjk : j = k
        · subst hjk; exact hw
        · exact hall j h (by omega)
    · have hz := idxZ_at l armN hk1 hw hall
      simp -dsimp [hki]
      repeat' (first | omega | (simp -dsimp [E103, ri, cellp, ints, hki, hk1, hl, hw, wk, hz, ri]) | (refine Also.intro ?_ fun _ => ?_) | (refine Hold.intro fun _ => ?_) | (refine And.intro ?_ ?_))
  · have hkn : ¬ (k : Int) < l.length := by omega
    have hz := idxZ_none l armN (fun j h => hall j h (by omega))
    simp -dsimp [hkn]
    repeat' (first | omega | (simp -dsimp [E103, ri, cellp, ints, hkn, hz]) | (refine Also.intro ?_ fun _ => ?_) | (refine Hold.intro fun _ => ?_) | (refine And.intro ?_ ?_))
theorem ok103 : FnOK Try.prog 103 (.pure amixS) := pure_fn (E := E103) rfl (.cons ok94 .nil) (ok := []) (fn := Try.f103) (by kernel_rfl) (by kernel_rfl) (by kernel_rfl) (by kernel_rfl) rfl (fun _ _ => by simp) b103
noncomputable abbrev E93 : Env := { P := Try.prog, fn := tbl [(103, .pure amixS)], own := [], key := 9300, nt := 9 }
theorem b93 : PureBody E93 [] Try.f93 amanS := by
  refine pb ?_
  rintro l hl
  have hl : l.length ≤ 1000000 := hl
  have hz := idxZ_any l armN
  simp -dsimp [Try.f93, E93]
  repeat' (first | omega | (simp -dsimp [E93, ri, cellp, ints, hl, amsE_dec, hz]) | (refine Also.intro ?_ fun _ => ?_) | (refine Hold.intro fun _ => ?_) | (refine And.intro ?_ ?_))
theorem ok93 : FnOK Try.prog 93 (.pure amanS) := pure_fn (E := E93) rfl (.cons ok103 .nil) (ok := []) (fn := Try.f93) (by kernel_rfl) (by kernel_rfl) (by kernel_rfl) (by kernel_rfl) rfl (fun _ _ => by simp) b93
@[simp] def caE (c : Ca) : List V := [.agg c.row]
theorem caE_inj (a b : Ca) (h : caE a = caE b) : a = b := Ca.row_inj _ _ (by simpa using h)
theorem caE_dec (c : Ca) : decC caE [.agg [.int .i64 c.emp, .int .i64 c.arm, .sl 2 (c.st.map Se.row), .int .i64 c.farm, .int .i64 c.low, .int .i64 c.high]] = c := decC_eq caE_inj c
def armsTo (c : Ca) (k : Nat) : List Int := [c.arm, c.farm, c.low, c.high] ++ (c.st.take k).map Se.arm
theorem armsTo_succ (c : Ca) {k : Nat} {s : Se} (h : c.st[k]? = some s) : armsTo c (k + 1) = armsTo c k ++ [s.arm] := by
  have hk : k < c.st.length := (List.getElem?_eq_some_iff.1 h).1
  unfold armsTo
  rw [take_snoc c.st hk, List.map_append, List.append_assoc, show c.st.getD k default = s by simp [List.getD, h]]; rfl
theorem armsTo_len (c : Ca) {k : Nat} (h : k ≤ c.st.length) : (armsTo c k).length = k + 4 := by simp [armsTo]; omega
theorem ca_ok (c : Ca) : c.ok = (withinB c.emp 1 100000 && decide (c.st.length ≤ 8) && decide (c.low ≤ c.high) && !((armsTo c c.st.length).any armN)) := by
  have e0 : armN = fun n => !armB n := rfl
  have e : (armsTo c c.st.length).any armN = !(armB c.arm && armB c.farm && armB c.low && armB c.high && c.st.all fun s => armB s.arm) := by
    unfold armsTo
    rw [List.take_length, e0, ← List.not_all_eq_any_not]
    simp [List.all_append, List.all_map, Function.comp_def, Bool.and_assoc]
  rw [e, Bool.not_not, Ca.ok, withinB]
  simp only [Bool.and_assoc]
noncomputable abbrev cabS : PSpec := mkP caE (fun c => c.st.length ≤ 900000) fun c => .int .i64 (if c.ok = true then 0 else 102)
noncomputable abbrev E69 : Env := { P := Try.prog, fn := tbl [(42, .pure withinS), (93, .pure amanS)], own := [14], key := 6900, nt := 49 }
theorem b69 : PureBody E69 [] Try.f69 cabS := by
  refine pb ?_
  rintro c hl
  have hl : c.st.length ≤ 900000 := hl
  have hok := ca_ok c
  simp -dsimp [Try.f69, E69, Ca.row]
  repeat' (first | omega | (simp -dsimp [E69, ri, cellp, ints, Ca.row]) | (refine Also.intro ?_ fun _ => ?_) | (refine Hold.intro fun _ => ?_) | (refine And.intro ?_ ?_))
  refine awp_loop [19, 20, 21, 5, 22, 23, 24, 25, 26, 3, 27, 18] (fun k : { k : Nat // k ≤ c.st.length } => [(18, (true, .int .i64 k.1)), (3, (true, .bsl 6914 0 (k.1 + 4)))]) (fun k => hps [(6905, { base := k.1, blks := [] }), (6914, { base := 0, blks := [{ z := 1, els := (armsTo c k.1).map ri, ty := 3 }] }), (6901, { base := 0, blks := [{ z := 6, els := [c.row], ty := 49 }] })] noH) (fun k => c.st.length - k.1) ⟨0, by omega⟩ ?_ ?_ ?_
  · simp [okAll, okv]
  · exact (by (try simp -dsimp only [hpush_noH, hpush_hps, hps_over]); refine hle_hps ?_; simp -dsimp [allK, armsTo, ri, Ca.row]; repeat' (first | (refine And.intro ?_ ?_) | (refine sLe.same ?_ ?_ <;> (simp; done)) | (refine sLe.clear ?_ ?_ <;> (first | (simp; done) | (simp; omega))) | (refine sLe.drop 1 ?_ ?_ ?_ <;> (simp; done))))
  rintro ⟨k, hk⟩
  dsimp only
  have hal := armsTo_len c hk
  by_cases hk1 : k < c.st.length
  · have hki : (k : Int) < c.st.length := by omega
    have wk : IntKind.wrap .i64 ((k : Int) + 1) = (k + 1 : Nat) := wrap_id (by omega) (by omega)
    obtain ⟨s, hs⟩ : ∃ s, c.st[k]? = some s := ⟨_, List.getElem?_eq_getElem hk1⟩
    have hs' : c.st[k] = s := (List.getElem?_eq_some_iff.1 hs).2
    have hsu := armsTo_succ c hs
    simp -dsimp [hki]
    repeat' (first | omega | (simp -dsimp [E69, ri, cellp, ints, hki, hk1, wk, hs, hs', hal, Se.row, Ca.row]) | (refine Also.intro ?_ fun _ => ?_) | (refine Hold.intro fun _ => ?_) | (refine And.intro ?_ ?_))
    refine ⟨k + 1, tle_chain rfl ?_, ?_, by omega, by omega⟩
    · simp [okAll, okv]
    · exact (by (try simp -dsimp only [hpush_noH, hpush_hps, hps_over]); refine hle_hps ?_; simp -dsimp [allK, hsu, ri, Ca.row]; repeat' (first | (refine And.intro ?_ ?_) | (refine sLe.same ?_ ?_ <;> (simp; done)) | (refine sLe.clear ?_ ?_ <;> (first | (simp; done) | (simp; omega))) | (refine sLe.drop 1 ?_ ?_ ?_ <;> (simp; done))))
  · have hkn : ¬ (k : Int) < c.st.length := by omega
    have hke : k = c.st.length := by omega
    subst hke
    generalize hA : armsTo c c.st.length = A at *
    generalize c1 : withinB c.emp 1 100000 = b1 at hok
    generalize c4 : A.any armN = b4 at hok
    simp -dsimp [hkn]
    repeat' (first | omega | (simp -dsimp [E69, ri, cellp, ints, hkn, hal, amsE_dec, c1, c4, Ca.row]) | (refine Also.intro ?_ fun _ => ?_) | (refine Hold.intro fun _ => ?_) | (refine And.intro ?_ ?_))
    · intro h1 h2 h3
      exact ⟨⟨⟨h1, h2⟩, h3⟩, by omega⟩
    · rename_i h
      rw [hok]
      rcases h with ((h | h) | h) | h
      · simp [h]
      · rw [decide_eq_false (by omega : ¬ c.st.length ≤ 8)]; simp
      · rw [decide_eq_false (by omega : ¬ c.low ≤ c.high)]; simp
      · simp [h]
    · rename_i h
      rw [hok, h.1.1.1, h.2, decide_eq_true h.1.2, decide_eq_true (by omega : c.st.length ≤ 8)]; rfl
theorem ok69 : FnOK Try.prog 69 (.pure cabS) := pure_fn (E := E69) rfl (.cons ok42 (.cons ok93 .nil)) (ok := []) (fn := Try.f69) (by kernel_rfl) (by kernel_rfl) (by kernel_rfl) (by kernel_rfl) rfl (fun _ _ => by simp) b69

/-! guests -/
def guN (g : Gu) : Bool := !(withinB g.w 1 500) || !(withinB g.dive 0 2000)
theorem gu_ok (g : Gu) : g.ok = !guN g := by simp [guN, Gu.ok, withinB]
@[simp] def guE (g : Gu) : List V := [.agg g.row]
theorem guE_inj (a b : Gu) (h : guE a = guE b) : a = b := Gu.row_inj _ _ (by simpa using h)
theorem guE_dec (g : Gu) : decC guE [.agg [.int .i64 g.w, .bool g.suit, .int .i64 g.dive, .bool g.able]] = g := decC_eq guE_inj g
noncomputable abbrev guS : PSpec := mkP guE (fun _ => True) fun g => .bool (guN g)
noncomputable abbrev E68 : Env := { P := Try.prog, fn := tbl [(42, .pure withinS), (38, .pure timeS)], own := [], key := 6800, nt := 13 }
theorem b68 : PureBody E68 [] Try.f68 guS := by
  refine pb ?_
  rintro g _
  simp -dsimp [Try.f68, E68, Gu.row, guN]
  repeat' (first | omega | (simp -dsimp [E68, ri, cellp, ints, Gu.row, guN]) | (refine Also.intro ?_ fun _ => ?_) | (refine Hold.intro fun _ => ?_) | (refine And.intro ?_ ?_))
theorem ok68 : FnOK Try.prog 68 (.pure guS) := pure_fn (E := E68) rfl (.cons ok42 (.cons ok38 .nil)) (ok := []) (fn := Try.f68) (by kernel_rfl) (by kernel_rfl) (by kernel_rfl) (by kernel_rfl) rfl (fun _ _ => by simp) b68
@[simp] def gussE (d : List Gu) : List V := [.sl 4 (d.map Gu.row), .fn 68 []]
theorem gussE_inj (a b : List Gu) (h : gussE a = gussE b) : a = b := by
  simp only [gussE, List.cons.injEq, V.sl.injEq, true_and, and_true] at h
  exact mapRow_inj Gu.row_inj h
theorem gussE_dec (l : List Gu) : decC gussE [.sl 4 (l.map Gu.row), .fn 68 []] = l := decC_eq gussE_inj l
noncomputable abbrev gusixS : PSpec := mkP gussE (fun d => d.length ≤ 1000000) fun d => .int .i64 (idxZ d guN)
noncomputable abbrev gusanS : PSpec := mkP gussE (fun d => d.length ≤ 1000000) fun d => .bool (d.any guN)
noncomputable abbrev E92 : Env := { P := Try.prog, fn := tbl [(68, .pure guS)], own := [], key := 9200, nt := 19 }
theorem b92 : PureBody E92 [] Try.f92 gusixS := by
  refine pb ?_
  rintro l hl
  have hl : l.length ≤ 1000000 := hl
  simp -dsimp [Try.f92, E92]
  refine awp_loop [9, 10, 5, 11, 12, 13, 14, 15, 16, 17, 4, 18, 8] (fun k : { k : Nat // k ≤ l.length ∧ ∀ j (h : j < l.length), j < k → guN l[j] = false } => [(8, (true, .int .i64 k.1))]) (fun _ => noH) (fun k => l.length - k.1) ⟨0, by omega, fun _ _ h => by omega⟩ ?_ (HLe.refl _) ?_
  · simp [okAll, okv]
  rintro ⟨k, hk, hall⟩
  by_cases hk1 : k < l.length
  · have hki : (k : Int) < l.length := by omega
    have wk : IntKind.wrap .i64 ((k : Int) + 1) = (k + 1 : Nat) := wrap_id (by omega) (by omega)
    cases hw : guN l[k]
    · simp -dsimp [hki]
      repeat' (first | omega | (simp -dsimp [E92, ri, cellp, ints, hki, hk1, hl, hw, wk, Gu.row, guE_dec]) | (refine Also.intro ?_ fun _ => ?_) | (refine Hold.intro fun _ => ?_) | (refine And.intro ?_ ?_))
      refine ⟨k + 1, tle_chain rfl ?_, HLe.refl _, ⟨by omega, fun j h hj => ?_⟩, by omega⟩
      · simp [okAll, okv]
      · by_cases hjk : j = k
        · subst hjk; exact hw
        · exact hall j h (by omega)
    · have hz := idxZ_at l guN hk1 hw hall
      simp -dsimp [hki]
      repeat' (first | omega | (simp -dsimp [E92, ri, cellp, ints, hki, hk1, hl, hw, wk, hz, Gu.row, guE_dec]) | (refine Also.intro ?_ fun _ => ?_) | (refine Hold.intro fun _ => ?_) | (refine And.intro ?_ ?_))
  · have hkn : ¬ (k : Int) < l.length := by omega
    have hz := idxZ_none l guN (fun j h => hall j h (by omega))
    simp -dsimp [hkn]
    repeat' (first | omega | (simp -dsimp [E92, ri, cellp, ints, hkn, hz]) | (refine Also.intro ?_ fun _ => ?_) | (refine Hold.intro fun _ => ?_) | (refine And.intro ?_ ?_))
theorem ok92 : FnOK Try.prog 92 (.pure gusixS) := pure_fn (E := E92) rfl (.cons ok68 .nil) (ok := []) (fn := Try.f92) (by kernel_rfl) (by kernel_rfl) (by kernel_rfl) (by kernel_rfl) rfl (fun _ _ => by simp) b92
noncomputable abbrev E67 : Env := { P := Try.prog, fn := tbl [(92, .pure gusixS)], own := [], key := 6700, nt := 9 }
theorem b67 : PureBody E67 [] Try.f67 gusanS := by
  refine pb ?_
  rintro l hl
  have hl : l.length ≤ 1000000 := hl
  have hz := idxZ_any l guN
  simp -dsimp [Try.f67, E67]
  repeat' (first | omega | (simp -dsimp [E67, ri, cellp, ints, hl, gussE_dec, hz]) | (refine Also.intro ?_ fun _ => ?_) | (refine Hold.intro fun _ => ?_) | (refine And.intro ?_ ?_))
theorem ok67 : FnOK Try.prog 67 (.pure gusanS) := pure_fn (E := E67) rfl (.cons ok92 .nil) (ok := []) (fn := Try.f67) (by kernel_rfl) (by kernel_rfl) (by kernel_rfl) (by kernel_rfl) rfl (fun _ _ => by simp) b67
theorem gue_of (l : List Gu) (room : Int) : gueE l room = if room < l.length then 2 else if (l.any guN) = true then 103 else 0 := by
  have e : l.all Gu.ok = !(l.any guN) := by
    rw [List.not_any_eq_all_not]; congr 1; funext g; exact gu_ok g
  unfold gueE
  rw [e]
  cases l.any guN <;> rfl
@[simp] def grE (d : List Gu × Int) : List V := [.sl 4 (d.1.map Gu.row), .int .i64 d.2]
theorem grE_inj (a b : List Gu × Int) (h : grE a = grE b) : a = b := by
  obtain ⟨a1, a2⟩ := a; obtain ⟨b1, b2⟩ := b
  simp only [grE, List.cons.injEq, V.sl.injEq, V.int.injEq, true_and, and_true] at h
  rw [mapRow_inj Gu.row_inj h.1, h.2]
theorem grE_dec (l : List Gu) (n : Int) : decC grE [.sl 4 (l.map Gu.row), .int .i64 n] = (l, n) := decC_eq grE_inj (l, n)
noncomputable abbrev grS : PSpec := mkP grE (fun d => d.1.length ≤ 1000000) fun d => .int .i64 (gueE d.1 d.2)
noncomputable abbrev E37 : Env := { P := Try.prog, fn := tbl [(67, .pure gusanS)], own := [], key := 3700, nt := 11 }
theorem b37 : PureBody E37 [] Try.f37 grS := by
  refine pb ?_
  rintro ⟨l, n⟩ hl
  have hl : l.length ≤ 1000000 := hl
  have hg := gue_of l n
  generalize h1 : l.any guN = b at hg
  by_cases hn : n < l.length
  · rw [if_pos hn] at hg
    simp -dsimp [Try.f37, E37]
    repeat' (first | omega | (simp -dsimp [E37, ri, cellp, ints, hl, hn, hg]) | (refine Also.intro ?_ fun _ => ?_) | (refine Hold.intro fun _ => ?_) | (refine And.intro ?_ ?_))
  · rw [if_neg hn] at hg
    have hn' : (n < (l.length : Int)) = False := eq_false hn
    cases b
    · simp -dsimp [Try.f37, E37]
      repeat' (first | omega | (simp -dsimp [E37, ri, cellp, ints, hl, hn', hg, gussE_dec, h1]) | (refine Also.intro ?_ fun _ => ?_) | (refine Hold.intro fun _ => ?_) | (refine And.intro ?_ ?_))
    · simp -dsimp [Try.f37, E37]
      repeat' (first | omega | (simp -dsimp [E37, ri, cellp, ints, hl, hn', hg, gussE_dec, h1]) | (refine Also.intro ?_ fun _ => ?_) | (refine Hold.intro fun _ => ?_) | (refine And.intro ?_ ?_))
theorem ok37 : FnOK Try.prog 37 (.pure grS) := pure_fn (E := E37) rfl (.cons ok67 .nil) (ok := []) (fn := Try.f37) (by kernel_rfl) (by kernel_rfl) (by kernel_rfl) (by kernel_rfl) rfl (fun _ _ => by simp) b37

/-! spans -/
noncomputable abbrev E95 : Env := { P := Try.prog, fn := tbl [], own := [], key := 9500, nt := 15 }
theorem b95 : PureBody E95 [] Try.f95 withinS := by
  refine pb ?_
  rintro ⟨n, a, b⟩ _
  simp -dsimp [Try.f95, E95, withinB]
  repeat' (first | omega | (simp -dsimp [E95, ri, cellp, ints, *]) | (refine Also.intro ?_ fun _ => ?_) | (refine Hold.intro fun _ => ?_) | (refine And.intro ?_ ?_))
theorem ok95 : FnOK Try.prog 95 (.pure withinS) := pure_fn (E := E95) rfl LOK.nil (ok := []) (fn := Try.f95) (by kernel_rfl) (by kernel_rfl) (by kernel_rfl) (by kernel_rfl) rfl (fun _ _ => by simp) b95
def spN (f : Sp) : Bool := !(withinB f.lo (-1000000) f.hi && decide (f.hi ≤ 1000000))
@[simp] def spE (f : Sp) : List V := [.agg f.row]
theorem spE_inj (a b : Sp) (h : spE a = spE b) : a = b := Sp.row_inj _ _ (by simpa using h)
theorem spE_dec (f : Sp) : decC spE [.agg [.int .i64 f.lo, .int .i64 f.hi]] = f := decC_eq spE_inj f
noncomputable abbrev spvS : PSpec := mkP spE (fun _ => True) fun f => .bool (!spN f)
noncomputable abbrev spnS : PSpec := mkP spE (fun _ => True) fun f => .bool (spN f)
noncomputable abbrev E106 : Env := { P := Try.prog, fn := tbl [(95, .pure withinS)], own := [], key := 10600, nt := 13 }
theorem b106 : PureBody E106 [] Try.f106 spvS := by
  refine pb ?_
  rintro f _
  simp -dsimp [Try.f106, E106, Sp.row, spN]
  repeat' (first | omega | (simp -dsimp [E106, ri, cellp, ints, Sp.row, spN]) | (refine Also.intro ?_ fun _ => ?_) | (refine Hold.intro fun _ => ?_) | (refine And.intro ?_ ?_))
theorem ok106 : FnOK Try.prog 106 (.pure spvS) := pure_fn (E := E106) rfl (.cons ok95 .nil) (ok := []) (fn := Try.f106) (by kernel_rfl) (by kernel_rfl) (by kernel_rfl) (by kernel_rfl) rfl (fun _ _ => by simp) b106
noncomputable abbrev E105 : Env := { P := Try.prog, fn := tbl [(106, .pure spvS)], own := [], key := 10500, nt := 6 }
theorem b105 : PureBody E105 [] Try.f105 spnS := by
  refine pb ?_
  rintro f _
  simp -dsimp [Try.f105, E105, Sp.row]
  repeat' (first | omega | (simp -dsimp [E105, ri, cellp, ints, Sp.row, spE_dec]) | (refine Also.intro ?_ fun _ => ?_) | (refine Hold.intro fun _ => ?_) | (refine And.intro ?_ ?_))
theorem ok105 : FnOK Try.prog 105 (.pure spnS) := pure_fn (E := E105) rfl (.cons ok106 .nil) (ok := []) (fn := Try.f105) (by kernel_rfl) (by kernel_rfl) (by kernel_rfl) (by kernel_rfl) rfl (fun _ _ => by simp) b105
@[simp] def spssE (d : List Sp) : List V := [.sl 2 (d.map Sp.row), .fn 105 []]
theorem spssE_inj (a b : List Sp) (h : spssE a = spssE b) : a = b := by
  simp only [spssE, List.cons.injEq, V.sl.injEq, true_and, and_true] at h
  exact mapRow_inj Sp.row_inj h
theorem spssE_dec (l : List Sp) : decC spssE [.sl 2 (l.map Sp.row), .fn 105 []] = l := decC_eq spssE_inj l
noncomputable abbrev spsixS : PSpec := mkP spssE (fun d => d.length ≤ 1000000) fun d => .int .i64 (idxZ d spN)
noncomputable abbrev spsanS : PSpec := mkP spssE (fun d => d.length ≤ 1000000) fun d => .bool (d.any spN)
noncomputable abbrev E110 : Env := { P := Try.prog, fn := tbl [(105, .pure spnS)], own := [], key := 11000, nt := 19 }
theorem b110 : PureBody E110 [] Try.f110 spsixS := by
  refine pb ?_
  rintro l hl
  have hl : l.length ≤ 1000000 := hl
  simp -dsimp [Try.f110, E110]
  refine awp_loop [9, 10, 5, 11, 12, 13, 14, 15, 16, 17, 4, 18, 8] (fun k : { k : Nat // k ≤ l.length ∧ ∀ j (h : j < l.length), j < k → spN l[j] = false } => [(8, (true, .int .i64 k.1))]) (fun _ => noH) (fun k => l.length - k.1) ⟨0, by omega, fun _ _ h => by omega⟩ ?_ (HLe.refl _) ?_
  · simp [okAll, okv]
  rintro ⟨k, hk, hall⟩
  by_cases hk1 : k < l.length
  · have hki : (k : Int) < l.length := by omega
    have wk : IntKind.wrap .i64 ((k : Int) + 1) = (k + 1 : Nat) := wrap_id (by omega) (by omega)
    cases hw : spN l[k]
    · simp -dsimp [hki]
      repeat' (first | omega | (simp -dsimp [E110, ri, cellp, ints, hki, hk1, hl, hw, wk, Sp.row, spE_dec]) | (refine Also.intro ?_ fun _ => ?_) | (refine Hold.intro fun _ => ?_) | (refine And.intro ?_ ?_))
      refine ⟨k + 1, tle_chain rfl ?_, HLe.refl _, ⟨by omega, fun j h hj => ?_⟩, by omega⟩
      · simp [okAll, okv]
      · by_cases hjk : j = k
        · subst hjk; exact hw
        · exact hall j h (by omega)
    · have hz := idxZ_at l spN hk1 hw hall
      simp -dsimp [hki]
      repeat' (first | omega | (simp -dsimp [E110, ri, cellp, ints, hki, hk1, hl, hw, wk, hz, Sp.row, spE_dec]) | (refine Also.intro ?_ fun _ => ?_) | (refine Hold.intro fun _ => ?_) | (refine And.intro ?_ ?_))
  · have hkn : ¬ (k : Int) < l.length := by omega
    have hz := idxZ_none l spN (fun j h => hall j h (by omega))
    simp -dsimp [hkn]
    repeat' (first | omega | (simp -dsimp [E110, ri, cellp, ints, hkn, hz]) | (refine Also.intro ?_ fun _ => ?_) | (refine Hold.intro fun _ => ?_) | (refine And.intro ?_ ?_))
theorem ok110 : FnOK Try.prog 110 (.pure spsixS) := pure_fn (E := E110) rfl (.cons ok105 .nil) (ok := []) (fn := Try.f110) (by kernel_rfl) (by kernel_rfl) (by kernel_rfl) (by kernel_rfl) rfl (fun _ _ => by simp) b110
noncomputable abbrev E104 : Env := { P := Try.prog, fn := tbl [(110, .pure spsixS)], own := [], key := 10400, nt := 9 }
theorem b104 : PureBody E104 [] Try.f104 spsanS := by
  refine pb ?_
  rintro l hl
  have hl : l.length ≤ 1000000 := hl
  have hz := idxZ_any l spN
  simp -dsimp [Try.f104, E104]
  repeat' (first | omega | (simp -dsimp [E104, ri, cellp, ints, hl, spssE_dec, hz]) | (refine Also.intro ?_ fun _ => ?_) | (refine Hold.intro fun _ => ?_) | (refine And.intro ?_ ?_))
theorem ok104 : FnOK Try.prog 104 (.pure spsanS) := pure_fn (E := E104) rfl (.cons ok110 .nil) (ok := []) (fn := Try.f104) (by kernel_rfl) (by kernel_rfl) (by kernel_rfl) (by kernel_rfl) rfl (fun _ _ => by simp) b104
@[simp] def slE (d : List Sp) : List V := [.sl 2 (d.map Sp.row)]
theorem slE_inj (a b : List Sp) (h : slE a = slE b) : a = b := by
  simp only [slE, List.cons.injEq, V.sl.injEq, true_and, and_true] at h
  exact mapRow_inj Sp.row_inj h
theorem slE_dec (l : List Sp) : decC slE [.sl 2 (l.map Sp.row)] = l := decC_eq slE_inj l
theorem slE_dec1 (f : Sp) : decC slE [.sl 2 [[.int .i64 f.lo, .int .i64 f.hi]]] = [f] := decC_eq slE_inj [f]
noncomputable abbrev spdS : PSpec := mkP slE (fun d => d.length ≤ 1000000) fun d => .int .i64 (if d.any spN = true then 10 else 0)
noncomputable abbrev E96 : Env := { P := Try.prog, fn := tbl [(104, .pure spsanS)], own := [], key := 9600, nt := 5 }
theorem b96 : PureBody E96 [] Try.f96 spdS := by
  refine pb ?_
  rintro l hl
  have hl : l.length ≤ 1000000 := hl
  generalize h1 : l.any spN = b
  cases b
  · simp -dsimp [Try.f96, E96]
    repeat' (first | omega | (simp -dsimp [E96, ri, cellp, ints, hl, h1, spssE_dec]) | (refine Also.intro ?_ fun _ => ?_) | (refine Hold.intro fun _ => ?_) | (refine And.intro ?_ ?_))
  · simp -dsimp [Try.f96, E96]
    repeat' (first | omega | (simp -dsimp [E96, ri, cellp, ints, hl, h1, spssE_dec]) | (refine Also.intro ?_ fun _ => ?_) | (refine Hold.intro fun _ => ?_) | (refine And.intro ?_ ?_))
theorem ok96 : FnOK Try.prog 96 (.pure spdS) := pure_fn (E := E96) rfl (.cons ok104 .nil) (ok := []) (fn := Try.f96) (by kernel_rfl) (by kernel_rfl) (by kernel_rfl) (by kernel_rfl) rfl (fun _ _ => by simp) b96
noncomputable abbrev boxS : PSpec := mkP slE (fun d => d.length ≤ 1000000) fun d => .int .i64 (if withinB d.length 1 3 = true ∧ d.any spN = false then 0 else 10)
noncomputable abbrev E70 : Env := { P := Try.prog, fn := tbl [(95, .pure withinS), (96, .pure spdS)], own := [], key := 7000, nt := 9 }
theorem b70 : PureBody E70 [] Try.f70 boxS := by
  refine pb ?_
  rintro l hl
  have hl : l.length ≤ 1000000 := hl
  generalize h1 : l.any spN = b
  generalize h2 : withinB l.length 1 3 = c
  cases b <;> cases c
  all_goals
    simp -dsimp [Try.f70, E70]
    repeat' (first | omega | (simp -dsimp [E70, ri, cellp, ints, hl, h1, h2, slE_dec]) | (refine Also.intro ?_ fun _ => ?_) | (refine Hold.intro fun _ => ?_) | (refine And.intro ?_ ?_))
theorem ok70 : FnOK Try.prog 70 (.pure boxS) := pure_fn (E := E70) rfl (.cons ok95 (.cons ok96 .nil)) (ok := []) (fn := Try.f70) (by kernel_rfl) (by kernel_rfl) (by kernel_rfl) (by kernel_rfl) rfl (fun _ _ => by simp) b70

/-! a cabin, guests and fuel -/
@[simp] def lodE3 (d : Ca × List Gu × Sp) : List V := [.agg d.1.row, .sl 4 (d.2.1.map Gu.row), .agg d.2.2.row]
theorem lodE3_inj (a b : Ca × List Gu × Sp) (h : lodE3 a = lodE3 b) : a = b := by
  obtain ⟨a1, a2, a3⟩ := a; obtain ⟨b1, b2, b3⟩ := b
  simp only [lodE3, List.cons.injEq, V.sl.injEq, V.agg.injEq, true_and, and_true] at h
  rw [Ca.row_inj _ _ h.1, mapRow_inj Gu.row_inj h.2.1, Sp.row_inj _ _ h.2.2]
theorem lodE3_dec (c : Ca) (l : List Gu) (f : Sp) : decC lodE3 [.agg [.int .i64 c.emp, .int .i64 c.arm, .sl 2 (c.st.map Se.row), .int .i64 c.farm, .int .i64 c.low, .int .i64 c.high], .sl 4 (l.map Gu.row), .agg [.int .i64 f.lo, .int .i64 f.hi]] = (c, l, f) := decC_eq lodE3_inj (c, l, f)
structure LoP (d : Ca × List Gu × Sp) : Prop where
  c : d.1.st.length ≤ 900000
  l : d.2.1.length ≤ 1000000
noncomputable abbrev lodS : PSpec := mkP lodE3 LoP fun d => .int .i64 (lodE d.1 d.2.1 d.2.2)
theorem spn_of (f : Sp) : spnE f = if spN f = true ∨ f.lo < 0 ∨ 100000 < f.hi then 10 else 0 := by
  unfold spnE spN withinB
  by_cases h : -1000000 ≤ f.lo ∧ f.lo ≤ f.hi ∧ f.hi ≤ 1000000 ∧ 0 ≤ f.lo ∧ f.hi ≤ 100000
  · rw [if_pos h, if_neg]; simp; omega
  · rw [if_neg h, if_pos]; simp; omega
noncomputable abbrev E45 : Env := { P := Try.prog, fn := tbl [(69, .pure cabS), (37, .pure grS), (70, .pure boxS)], own := [], key := 4500, nt := 36 }
theorem b45 : PureBody E45 [] Try.f45 lodS := by
  refine pb ?_
  rintro ⟨c, l, f⟩ ⟨hc, hl⟩
  simp only at hc hl
  have hK : lodE c l f = if c.ok = true then (if gueE l c.st.length = 0 then spnE f else gueE l c.st.length) else 102 := rfl
  have hS := spn_of f
  by_cases h1 : c.ok = true
  · rw [if_pos h1] at hK
    by_cases h2 : gueE l c.st.length = 0
    · rw [if_pos h2] at hK
      rw [hS] at hK
      generalize h3 : spN f = b at hK
      cases b
      · simp -dsimp [Try.f45, E45, Sp.row, Ca.row]
        repeat' (first | omega | (simp -dsimp [E45, ri, cellp, ints, Sp.row, Ca.row, caE_dec, grE_dec, slE_dec1, hc, hl, h1, h2, h3]) | (refine Also.intro ?_ fun _ => ?_) | (refine Hold.intro fun _ => ?_) | (refine And.intro ?_ ?_))
        · rename_i h
          rcases h with (h | h) | h
          · exact absurd h (by decide)
          · rw [hK, if_pos (.inr (.inl h))]
          · rw [hK, if_pos (.inr (.inr h))]
        · rename_i h
          rw [hK, if_neg (by rintro (h' | h' | h') <;> first | (cases h'; done) | omega)]
      · simp -dsimp [Try.f45, E45, Sp.row, Ca.row]
        repeat' (first | omega | (simp -dsimp [E45, ri, cellp, ints, Sp.row, Ca.row, caE_dec, grE_dec, slE_dec1, hc, hl, h1, h2, h3, hK]) | (refine Also.intro ?_ fun _ => ?_) | (refine Hold.intro fun _ => ?_) | (refine And.intro ?_ ?_))
    · rw [if_neg h2] at hK
      simp -dsimp [Try.f45, E45, Sp.row, Ca.row]
      repeat' (first | omega | (simp -dsimp [E45, ri, cellp, ints, Sp.row, Ca.row, caE_dec, grE_dec, hc, hl, h1, h2, hK]) | (refine Also.intro ?_ fun _ => ?_) | (refine Hold.intro fun _ => ?_) | (refine And.intro ?_ ?_))
  · rw [if_neg h1] at hK
    simp -dsimp [Try.f45, E45, Sp.row, Ca.row]
    repeat' (first | omega | (simp -dsimp [E45, ri, cellp, ints, Sp.row, Ca.row, caE_dec, hc, hl, h1, hK]) | (refine Also.intro ?_ fun _ => ?_) | (refine Hold.intro fun _ => ?_) | (refine And.intro ?_ ?_))
theorem ok45 : FnOK Try.prog 45 (.pure lodS) := pure_fn (E := E45) rfl (.cons ok69 (.cons ok37 (.cons ok70 .nil))) (ok := []) (fn := Try.f45) (by kernel_rfl) (by kernel_rfl) (by kernel_rfl) (by kernel_rfl) rfl (fun _ _ => by simp) b45
end Go.Sx
end
