/- A part of a proof; no conditions. -/
import Derived.Test.YtjpmoggimhmidaaGreatP23
import Derived.Test.YtjpmoggimhmidaaGreatP38
import Derived.Test.YtjpmoggimhmidaaGreatP22
set_option linter.unusedSimpArgs false
set_option linter.unusedVariables false
set_option linter.unusedSectionVars false
section
/- Crew: numbers within bounds, rosters. No conditions. -/
set_option linter.unusedSimpArgs false
set_option linter.unusedSectionVars false
set_option maxRecDepth 100000
set_option maxHeartbeats 1000000
namespace Go.Sx
open Go.Proofs

noncomputable abbrev E29 : Env := { P := Tryz.prog, fn := tbl [], own := [], key := 2900, nt := 15 }
theorem b29 : PureBody E29 [] Tryz.f29 withinS := by
  refine pb ?_
  rintro ⟨n, lo, hi⟩ _
  simp -dsimp [Tryz.f29, E29, withinB]
  repeat' (first | omega | (simp -dsimp [E29, ri, cellp, ints, withinB]) | (refine Also.intro ?_ fun _ => ?_) | (refine Hold.intro fun _ => ?_) | (refine And.intro ?_ ?_))
theorem ok29 : FnOK Tryz.prog 29 (.pure withinS) := pure_fn (E := E29) rfl LOK.nil (ok := []) (fn := Tryz.f29) (by kernel_rfl) (by kernel_rfl) (by kernel_rfl) (by kernel_rfl) rfl (fun _ _ => by simp) b29
abbrev int1S (f : Int → Bool) : PSpec := { dom := Int, enc := fun d => [.int .i64 d], dec := fun l => (l.getD 0 .top).toInt, pre := fun _ => True, res := fun d => .bool (f d) }
abbrev timeS : PSpec := int1S fun n => withinB n 0 2000
noncomputable abbrev E30 : Env := { P := Tryz.prog, fn := tbl [(29, .pure withinS)], own := [], key := 3000, nt := 5 }
theorem b30 : PureBody E30 [] Tryz.f30 timeS := by
  refine pb ?_
  rintro n _
  simp -dsimp [Tryz.f30, E30]
  repeat' (first | omega | (simp -dsimp [E30, ri, cellp, ints, *]) | (refine Also.intro ?_ fun _ => ?_) | (refine Hold.intro fun _ => ?_) | (refine And.intro ?_ ?_))
theorem ok30 : FnOK Tryz.prog 30 (.pure timeS) := pure_fn (E := E30) rfl (.cons ok29 .nil) (ok := []) (fn := Tryz.f30) (by kernel_rfl) (by kernel_rfl) (by kernel_rfl) (by kernel_rfl) rfl (fun _ _ => by simp) b30
noncomputable abbrev E109 : Env := { P := Tryz.prog, fn := tbl [(29, .pure withinS)], own := [], key := 10900, nt := 5 }
theorem b109 : PureBody E109 [] Tryz.f109 (int1S fun n => withinB n 1 2000) := by
  refine pb ?_
  rintro n _
  simp -dsimp [Tryz.f109, E109]
  repeat' (first | omega | (simp -dsimp [E109, ri, cellp, ints, *]) | (refine Also.intro ?_ fun _ => ?_) | (refine Hold.intro fun _ => ?_) | (refine And.intro ?_ ?_))
theorem ok109 : FnOK Tryz.prog 109 (.pure (int1S fun n => withinB n 1 2000)) := pure_fn (E := E109) rfl (.cons ok29 .nil) (ok := []) (fn := Tryz.f109) (by kernel_rfl) (by kernel_rfl) (by kernel_rfl) (by kernel_rfl) rfl (fun _ _ => by simp) b109
abbrev strS : PSpec := { dom := Int × Int, enc := fun d => [.int .i64 d.1, .int .i64 d.2], dec := fun l => ((l.getD 0 .top).toInt, (l.getD 1 .top).toInt), pre := fun _ => True, res := fun d => .bool (strW d.1 d.2) }
noncomputable abbrev E82 : Env := { P := Tryz.prog, fn := tbl [(29, .pure withinS)], own := [], key := 8200, nt := 13 }
theorem b82 : PureBody E82 [] Tryz.f82 strS := by
  refine pb ?_
  rintro ⟨a, b⟩ _
  have e : strW a b = (withinB a 0 (wr (b - 1)) && decide (b ≤ 2000)) := rfl
  simp -dsimp [Tryz.f82, E82, e, wr]
theorem ok82 : FnOK Tryz.prog 82 (.pure strS) := pure_fn (E := E82) rfl (.cons ok29 .nil) (ok := []) (fn := Tryz.f82) (by kernel_rfl) (by kernel_rfl) (by kernel_rfl) (by kernel_rfl) rfl (fun _ _ => by simp) b82

/-! a roster -/
@[simp] def pnE (p : Pn) : List V := [.agg p.row]
theorem pnE_inj (a b : Pn) (h : pnE a = pnE b) : a = b := Pn.row_inj _ _ (by simpa using h)
theorem pnE_dec (p : Pn) : decC pnE [.agg [.int .i64 p.rat, .int .i64 p.rank, .int .i64 p.dive]] = p := decC_eq pnE_inj p
def Pn.bad (p : Pn) : Bool := !p.ok
noncomputable abbrev pnS : PSpec := mkP pnE (fun _ => True) fun p => .bool p.bad
theorem pn_ok (p : Pn) : p.bad = !(withinB p.rat 0 255 && withinB p.rank 0 3 && withinB p.dive 0 2000) := rfl
noncomputable abbrev E108 : Env := { P := Tryz.prog, fn := tbl [(29, .pure withinS), (30, .pure timeS)], own := [], key := 10800, nt := 19 }
theorem b108 : PureBody E108 [] Tryz.f108 pnS := by
  refine pb ?_
  rintro ⟨a, b, c⟩ _
  simp -dsimp [Tryz.f108, E108, pn_ok, Pn.row]
theorem ok108 : FnOK Tryz.prog 108 (.pure pnS) := pure_fn (E := E108) rfl (.cons ok29 (.cons ok30 .nil)) (ok := []) (fn := Tryz.f108) (by kernel_rfl) (by kernel_rfl) (by kernel_rfl) (by kernel_rfl) rfl (fun _ _ => by simp) b108
@[simp] def pnsE (d : List Pn) : List V := [.sl 3 (d.map Pn.row), .fn 108 []]
theorem pnsE_inj (a b : List Pn) (h : pnsE a = pnsE b) : a = b := by
  simp only [pnsE, List.cons.injEq, V.sl.injEq, true_and, and_true] at h
  exact mapRow_inj Pn.row_inj h
theorem pnsE_dec (l : List Pn) : decC pnsE [.sl 3 (l.map Pn.row), .fn 108 []] = l := decC_eq pnsE_inj l
noncomputable abbrev pnixS : PSpec := mkP pnsE (fun d => d.length ≤ 1000000) fun d => .int .i64 (idxZ d Pn.bad)
noncomputable abbrev pnanS : PSpec := mkP pnsE (fun d => d.length ≤ 1000000) fun d => .bool (d.any Pn.bad)
noncomputable abbrev E126 : Env := { P := Tryz.prog, fn := tbl [(108, .pure pnS)], own := [], key := 12600, nt := 19 }
theorem b126 : PureBody E126 [] Tryz.f126 pnixS := by
  refine pb ?_
  rintro l hl
  have hl : l.length ≤ 1000000 := hl
  simp -dsimp [Tryz.f126, E126]
  refine awp_loop [9, 10, 5, 11, 12, 13, 14, 15, 16, 17, 4, 18, 8] (fun k : { k : Nat // k ≤ l.length ∧ ∀ j (h : j < l.length), j < k → Pn.bad l[j] = false } => [(8, (true, .int .i64 k.1))]) (fun _ => noH) (fun k => l.length - k.1) ⟨0, by omega, fun _ _ h => by omega⟩ ?_ (HLe.refl _) ?_
  · simp [okAll, okv]
  rintro ⟨k, hk, hall⟩
  by_cases hk1 : k < l.length
  · have hki : (k : Int) < l.length := by omega
    have wk : IntKind.wrap .i64 ((k : Int) + 1) = (k + 1 : Nat) := wrap_id (by omega) (by omega)
    cases hw : Pn.bad l[k]
    · simp -dsimp [hki]
      repeat' (first | omega | (simp -dsimp [E126, ri, cellp, ints, hki, hk1, hl, hw, wk, Pn.row, pnE_dec]) | (refine Also.intro ?_ fun _ => ?_) | (refine Hold.intro fun _ => ?_) | (refine And.intro ?_ ?_))
      refine ⟨k + 1, tle_chain rfl ?_, HLe.refl _, ⟨by omega, fun j h hj => ?_⟩, by omega⟩
      · simp [okAll, okv]
      · by_cases hjk : j = k
        · subst hjk; exact hw
        · exact hall j h (by omega)
    · have hz := idxZ_at l Pn.bad hk1 hw hall
      simp -dsimp [hki]
      repeat' (first | omega | (simp -dsimp [E126, ri, cellp, ints, hki, hk1, hl, hw, wk, hz, Pn.row, pnE_dec]) | (refine Also.intro ?_ fun _ => ?_) | (refine Hold.intro fun _ => ?_) | (refine And.intro ?_ ?_))
  · have hkn : ¬ (k : Int) < l.length := by omega
    have hz := idxZ_none l Pn.bad (fun j h => hall j h (by omega))
    simp -dsimp [hkn]
    repeat' (first | omega | (simp -dsimp [E126, ri, cellp, ints, hkn, hz]) | (refine Also.intro ?_ fun _ => ?_) | (refine Hold.intro fun _ => ?_) | (refine And.intro ?_ ?_))
theorem ok126 : FnOK Tryz.prog 126 (.pure pnixS) := pure_fn (E := E126) rfl (.cons ok108 .nil) (ok := []) (fn := Tryz.f126) (by kernel_rfl) (by kernel_rfl) (by kernel_rfl) (by kernel_rfl) rfl (fun _ _ => by simp) b126
noncomputable abbrev E110 : Env := { P := Tryz.prog, fn := tbl [(126, .pure pnixS)], own := [], key := 11000, nt := 9 }
theorem b110 : PureBody E110 [] Tryz.f110 pnanS := by
  refine pb ?_
  rintro l hl
  have hl : l.length ≤ 1000000 := hl
  have hz := idxZ_any l Pn.bad
  simp -dsimp [Tryz.f110, E110]
  repeat' (first | omega | (simp -dsimp [E110, ri, cellp, ints, hl, pnsE_dec, hz]) | (refine Also.intro ?_ fun _ => ?_) | (refine Hold.intro fun _ => ?_) | (refine And.intro ?_ ?_))
theorem ok110 : FnOK Tryz.prog 110 (.pure pnanS) := pure_fn (E := E110) rfl (.cons ok126 .nil) (ok := []) (fn := Tryz.f110) (by kernel_rfl) (by kernel_rfl) (by kernel_rfl) (by kernel_rfl) rfl (fun _ _ => by simp) b110
@[simp] def roE (r : Ro) : List V := [.agg r.row]
theorem roE_inj (a b : Ro) (h : roE a = roE b) : a = b := Ro.row_inj _ _ (by simpa using h)
theorem roE_dec (r : Ro) : decC roE [.agg [.sl 3 (r.ppl.map Pn.row), .int .i64 r.lng, .int .i64 r.rst, .int .i64 r.win, .int .i64 r.tot, .int .i64 r.rcn]] = r := decC_eq roE_inj r
noncomputable abbrev rosS : PSpec := mkP roE (fun d => d.ppl.length ≤ 1000000) fun d => .int .i64 (if d.ok = true then 0 else 100)
theorem ro_ok (r : Ro) : r.ok = (decide (r.ppl.length ≤ 12) && !(r.ppl.any Pn.bad) && withinB r.lng 1 2000 && withinB r.rst 0 2000 && withinB r.win 1 2000 && withinB r.rcn 1 2000 && withinB r.tot 1 r.win) := by
  have h : r.ppl.all Pn.ok = !(r.ppl.any Pn.bad) := by rw [List.not_any_eq_all_not]; congr 1; funext p; simp [Pn.bad]
  rw [Ro.ok, h]; rfl
noncomputable abbrev E81 : Env := { P := Tryz.prog, fn := tbl [(29, .pure withinS), (30, .pure timeS), (109, .pure (int1S fun n => withinB n 1 2000)), (110, .pure pnanS)], own := [], key := 8100, nt := 50 }
theorem b81 : PureBody E81 [] Tryz.f81 rosS := by
  refine pb ?_
  rintro r hl
  have hl : r.ppl.length ≤ 1000000 := hl
  have hr := ro_ok r
  generalize hA : r.ppl.any Pn.bad = a at hr
  generalize h2 : withinB r.lng 1 2000 = b at hr
  generalize h3 : withinB r.rst 0 2000 = c at hr
  generalize h4 : withinB r.win 1 2000 = d at hr
  generalize h5 : withinB r.rcn 1 2000 = e at hr
  generalize h6 : withinB r.tot 1 r.win = f at hr
  by_cases h0 : r.ppl.length ≤ 12
  · have e0 : ((12 : Int) < r.ppl.length) = False := eq_false (by omega)
    have e1 : (r.ppl.length ≤ 12) = True := eq_true h0
    simp -dsimp only [e1, decide_true, Bool.true_and] at hr
    simp -dsimp [Tryz.f81, E81, Ro.row, pplV]
    repeat' (first | omega | (simp -dsimp [E81, ri, cellp, ints, e0, hA, hl, pnsE_dec, h2, h3, h4, h5, h6, hr]) | (refine Also.intro ?_ fun _ => ?_) | (refine Hold.intro fun _ => ?_) | (refine And.intro ?_ ?_))
    all_goals (clear hr hA h2 h3 h4 h5 h6 hl; cases a <;> cases b <;> cases c <;> cases d <;> cases e <;> cases f <;> simp_all)
  · have e0 : ((12 : Int) < r.ppl.length) = True := eq_true (by omega)
    have e1 : (r.ppl.length ≤ 12) = False := eq_false h0
    simp -dsimp only [e1, decide_false, Bool.false_and] at hr
    simp -dsimp [Tryz.f81, E81, Ro.row, pplV]
    repeat' (first | omega | (simp -dsimp [E81, ri, cellp, ints, e0, hA, hl, pnsE_dec, hr]) | (refine Also.intro ?_ fun _ => ?_) | (refine Hold.intro fun _ => ?_) | (refine And.intro ?_ ?_))
theorem ok81 : FnOK Tryz.prog 81 (.pure rosS) := pure_fn (E := E81) rfl (.cons ok29 (.cons ok30 (.cons ok109 (.cons ok110 .nil)))) (ok := []) (fn := Tryz.f81) (by kernel_rfl) (by kernel_rfl) (by kernel_rfl) (by kernel_rfl) rfl (fun _ _ => by simp) b81
end Go.Sx
end
section
/- Crew, plain: cabins, guests, seatings, what they weigh; the first balanced seating. No conditions. -/
set_option linter.unusedSimpArgs false
set_option linter.unusedSectionVars false
namespace Go.Sx

structure Se where
  arm : Int
  ex : Bool
  deriving DecidableEq, Inhabited
def Se.row (s : Se) : List V := [.int .i64 s.arm, .bool s.ex]
theorem Se.row_inj (a b : Se) (h : a.row = b.row) : a = b := by
  cases a; cases b; simp [Se.row] at h; simp [h]
structure Gu where
  w : Int
  suit : Bool
  dive : Int
  able : Bool
  deriving DecidableEq, Inhabited
def Gu.row (g : Gu) : List V := [.int .i64 g.w, .bool g.suit, .int .i64 g.dive, .bool g.able]
theorem Gu.row_inj (a b : Gu) (h : a.row = b.row) : a = b := by
  cases a; cases b; simp [Gu.row] at h; simp [h]
structure Ca where
  emp : Int
  arm : Int
  st : List Se
  farm : Int
  low : Int
  high : Int
  deriving DecidableEq, Inhabited
def Ca.row (c : Ca) : List V := [.int .i64 c.emp, .int .i64 c.arm, .sl 2 (c.st.map Se.row), .int .i64 c.farm, .int .i64 c.low, .int .i64 c.high]
theorem Ca.row_inj (a b : Ca) (h : a.row = b.row) : a = b := by
  cases a; cases b
  simp only [Ca.row, List.cons.injEq, V.sl.injEq, V.int.injEq, true_and, and_true] at h
  obtain ⟨h1, h2, h3, h4, h5, h6⟩ := h
  rw [mapRow_inj Se.row_inj h3, h1, h2, h4, h5, h6]
def gusV (l : List Gu) : V := .sl 4 (l.map Gu.row)

def armB (n : Int) : Bool := decide (-1000 ≤ n ∧ n ≤ 1000)
def Ca.ok (c : Ca) : Bool := decide (1 ≤ c.emp ∧ c.emp ≤ 100000) && decide (c.st.length ≤ 8) && decide (c.low ≤ c.high) && armB c.arm && armB c.farm && armB c.low && armB c.high && c.st.all fun s => armB s.arm
structure Ca.Fit (c : Ca) : Prop where
  emp : 1 ≤ c.emp ∧ c.emp ≤ 100000
  n : c.st.length ≤ 8
  lh : c.low ≤ c.high
  arm : -1000 ≤ c.arm ∧ c.arm ≤ 1000
  farm : -1000 ≤ c.farm ∧ c.farm ≤ 1000
  low : -1000 ≤ c.low ∧ c.low ≤ 1000
  high : -1000 ≤ c.high ∧ c.high ≤ 1000
  st : ∀ s ∈ c.st, -1000 ≤ s.arm ∧ s.arm ≤ 1000
theorem Ca.ok_iff {c : Ca} : c.ok = true ↔ c.Fit := by
  unfold Ca.ok armB
  simp only [Bool.and_eq_true, decide_eq_true_eq, List.all_eq_true]
  constructor
  · rintro ⟨⟨⟨⟨⟨⟨⟨h1, h2⟩, h3⟩, h4⟩, h5⟩, h6⟩, h7⟩, h8⟩
    exact ⟨h1, h2, h3, h4, h5, h6, h7, h8⟩
  · rintro ⟨h1, h2, h3, h4, h5, h6, h7, h8⟩
    exact ⟨⟨⟨⟨⟨⟨⟨h1, h2⟩, h3⟩, h4⟩, h5⟩, h6⟩, h7⟩, h8⟩
def Gu.ok (g : Gu) : Bool := decide (1 ≤ g.w ∧ g.w ≤ 500) && decide (0 ≤ g.dive ∧ g.dive ≤ 2000)
def gueE (l : List Gu) (room : Int) : Int := if room < l.length then 2 else if l.all Gu.ok = true then 0 else 103
def spnE (f : Sp) : Int := if -1000000 ≤ f.lo ∧ f.lo ≤ f.hi ∧ f.hi ≤ 1000000 ∧ 0 ≤ f.lo ∧ f.hi ≤ 100000 then 0 else 10
def lodE (c : Ca) (l : List Gu) (f : Sp) : Int := if c.ok = true then (if gueE l c.st.length = 0 then spnE f else gueE l c.st.length) else 102
structure LFit (c : Ca) (l : List Gu) (f : Sp) : Prop where
  cf : c.Fit
  n : l.length ≤ c.st.length
  gf : ∀ g ∈ l, 1 ≤ g.w ∧ g.w ≤ 500
  ff : 0 ≤ f.lo ∧ f.lo ≤ f.hi ∧ f.hi ≤ 100000
theorem lodE_zero {c : Ca} {l : List Gu} {f : Sp} (h : lodE c l f = 0) : LFit c l f := by
  unfold lodE at h
  split at h
  · rename_i h1
    split at h
    · rename_i h2
      unfold spnE at h
      split at h
      · rename_i h3
        unfold gueE at h2
        split at h2
        · omega
        · rename_i h4
          split at h2
          · rename_i h5
            refine ⟨Ca.ok_iff.1 h1, by omega, fun g hg => ?_, by omega⟩
            have := List.all_eq_true.1 h5 g hg
            simp [Gu.ok] at this; exact this.1
          · omega
      · omega
    · omega
  · omega

/-! weights and moments -/
def guAt (l : List Gu) (i : Nat) : Gu := l.getD i default
def armAt (c : Ca) (s : List Int) (i : Nat) : Int := (c.st.getD (s.getD i 0).toNat default).arm
def wTo (l : List Gu) : Nat → Int
  | 0 => 0
  | k + 1 => wTo l k + (guAt l k).w
def mTo (c : Ca) (l : List Gu) (s : List Int) : Nat → Int
  | 0 => 0
  | k + 1 => mTo c l s k + (guAt l k).w * armAt c s k
def wgt (c : Ca) (l : List Gu) (f : Int) : Int := c.emp + wTo l l.length + f
def mom (c : Ca) (l : List Gu) (s : List Int) (f : Int) : Int := c.emp * c.arm + mTo c l s l.length + f * c.farm
theorem guAt_bd {l : List Gu} (h : ∀ g ∈ l, 1 ≤ g.w ∧ g.w ≤ 500) {k : Nat} (hk : k < l.length) : 1 ≤ (guAt l k).w ∧ (guAt l k).w ≤ 500 := by
  have : guAt l k = l[k] := by simp [guAt, List.getD, hk]
  rw [this]; exact h _ (List.getElem_mem hk)
theorem wTo_bd {l : List Gu} (h : ∀ g ∈ l, 1 ≤ g.w ∧ g.w ≤ 500) : ∀ k, k ≤ l.length → 0 ≤ wTo l k ∧ wTo l k ≤ 500 * k
  | 0, _ => by simp [wTo]
  | k + 1, hk => by
    have ih := wTo_bd h k (by omega)
    have := guAt_bd h (k := k) (by omega)
    rw [wTo]; omega
theorem mul_bd {a b A B : Int} (h1 : 0 ≤ a ∧ a ≤ A) (h2 : -B ≤ b ∧ b ≤ B) : -(A * B) ≤ a * b ∧ a * b ≤ A * B := by
  have hB : 0 ≤ B := by omega
  have e1 : a * b ≤ a * B := Int.mul_le_mul_of_nonneg_left h2.2 h1.1
  have e2 : a * B ≤ A * B := Int.mul_le_mul_of_nonneg_right h1.2 hB
  have e3 : a * -B ≤ a * b := Int.mul_le_mul_of_nonneg_left h2.1 h1.1
  rw [Int.mul_neg] at e3
  omega
theorem armAt_bd {c : Ca} (h : c.Fit) (s : List Int) (i : Nat) : -1000 ≤ armAt c s i ∧ armAt c s i ≤ 1000 := by
  unfold armAt
  generalize (s.getD i 0).toNat = k
  by_cases hk : k < c.st.length
  · have : c.st.getD k default = c.st[k] := by simp [List.getD, hk]
    rw [this]; exact h.st _ (List.getElem_mem hk)
  · have : c.st.getD k default = default := by simp [List.getD, List.getElem?_eq_none (Nat.le_of_not_lt hk)]
    rw [this, show (default : Se).arm = 0 from rfl]; omega
theorem mTo_bd {c : Ca} (hc : c.Fit) {l : List Gu} (h : ∀ g ∈ l, 1 ≤ g.w ∧ g.w ≤ 500) (s : List Int) : ∀ k, k ≤ l.length → -(500000 * (k : Int)) ≤ mTo c l s k ∧ mTo c l s k ≤ 500000 * k
  | 0, _ => by simp [mTo]
  | k + 1, hk => by
    have ih := mTo_bd hc h s k (by omega)
    have h1 := guAt_bd h (k := k) (by omega)
    have h2 := mul_bd (a := (guAt l k).w) (A := 500) (by omega) (armAt_bd hc s k)
    rw [mTo]; omega
/-- Whether the center lies within the limits, with the least and with the most fuel. -/
def ctB (c : Ca) (w m : Int) : Bool := decide (c.low * w ≤ m ∧ m ≤ c.high * w)
def balB (c : Ca) (l : List Gu) (f : Sp) (s : List Int) : Bool := ctB c (wgt c l f.lo) (mom c l s f.lo) && ctB c (wgt c l f.hi) (mom c l s f.hi)
def cenL (c : Ca) (l : List Gu) (f : Sp) (s : List Int) : Sp :=
  ⟨min (mom c l s f.lo / wgt c l f.lo) (mom c l s f.hi / wgt c l f.hi), max (-(-mom c l s f.lo / wgt c l f.lo)) (-(-mom c l s f.hi / wgt c l f.hi))⟩

/-! seatings -/
def sitsB (c : Ca) (g : Gu) (before : List Int) (s : Int) : Bool := decide (0 ≤ s ∧ s ≤ c.st.length - 1) && !before.contains s && (g.able || !(c.st.getD s.toNat default).ex)
def seatOk (c : Ca) (l : List Gu) (s : List Int) (i : Nat) : Bool := sitsB c (guAt l i) (s.take i) (s.getD i 0)
def rightB (c : Ca) (l : List Gu) (s : List Int) : Bool := decide (s.length = l.length) && (List.range l.length).all fun i => seatOk c l s i
/-- The first balanced seating that begins so; the first number is how many guests are left. -/
def sitF (c : Ca) (l : List Gu) (f : Sp) : Nat → List Int → Option (List Int)
  | 0, b => if balB c l f b = true then some b else none
  | m + 1, b => (List.range c.st.length).findSome? fun s : Nat => if sitsB c (guAt l b.length) b s = true then sitF c l f m (b ++ [(s : Int)]) else none
def lexLe (a b : List Int) : Prop := a = b ∨ ∃ i, i < a.length ∧ i < b.length ∧ a.take i = b.take i ∧ a.getD i 0 < b.getD i 0
theorem seatOk_snoc {c : Ca} {l : List Gu} {b : List Int} {s : Int} {i : Nat} (hi : i < b.length) : seatOk c l (b ++ [s]) i = seatOk c l b i := by
  unfold seatOk
  rw [List.take_append_of_le_length (by omega)]
  congr 1
  simp [List.getD, List.getElem?_append_left hi]
theorem sitF_sound {c : Ca} {l : List Gu} {f : Sp} : ∀ (m : Nat) (b a : List Int), b.length + m = l.length → (∀ i, i < b.length → seatOk c l b i = true) → sitF c l f m b = some a → rightB c l a = true ∧ balB c l f a = true ∧ a.take b.length = b
  | 0, b, a, hm, hb, h => by
    rw [sitF] at h
    split at h
    · rename_i h1
      simp only [Option.some.injEq] at h
      subst h
      refine ⟨?_, h1, List.take_length ..⟩
      simp only [rightB, Bool.and_eq_true, decide_eq_true_eq, List.all_eq_true, List.mem_range]
      exact ⟨by omega, fun i hi => hb i (by omega)⟩
    · simp at h
  | m + 1, b, a, hm, hb, h => by
    rw [sitF] at h
    obtain ⟨s, _, h1⟩ := List.exists_of_findSome?_eq_some h
    split at h1
    · rename_i h2
      obtain ⟨k1, k2, k3⟩ := sitF_sound m (b ++ [(s : Int)]) a (by simp; omega) (fun i hi => by
        simp at hi
        by_cases hib : i < b.length
        · rw [seatOk_snoc hib]; exact hb i hib
        · have : i = b.length := by omega
          subst this
          unfold seatOk
          rw [List.take_left' rfl]
          simpa [List.getD] using h2) h1
      refine ⟨k1, k2, ?_⟩
      have := congrArg (List.take b.length) k3
      rw [List.take_take, List.take_left' rfl] at this
      simpa [Nat.min_eq_left] using this
    · simp at h1
theorem findSome_first {α : Type} (g : Nat → Option α) (n t : Nat) (ht : t < n) (hg : (g t).isSome = true) : ∃ s a, s ≤ t ∧ g s = some a ∧ (List.range n).findSome? g = some a ∧ ∀ j, j < s → g j = none := by
  have h1 : ((List.range n).findSome? g).isSome = true := List.findSome?_isSome_iff.2 ⟨t, by simpa using ht, hg⟩
  obtain ⟨a, ha⟩ := Option.isSome_iff_exists.1 h1
  obtain ⟨l1, s, l2, e, hs, hn⟩ := List.findSome?_eq_some_iff.1 ha
  have hlen : l1.length < n := by have := congrArg List.length e; simp at this; omega
  have hls : s = l1.length := by
    have := congrArg (fun l => l[l1.length]?) e
    simp [hlen] at this; omega
  have hall : ∀ j, j < s → g j = none := fun j hj => by
    refine hn j ?_
    have := congrArg (fun l => l[j]?) e
    rw [hls] at hj
    simp only [List.getElem?_range (show j < n by omega), List.getElem?_append_left hj] at this
    exact List.mem_of_getElem? this.symm
  refine ⟨s, a, ?_, hs, ha, hall⟩
  by_cases h : s ≤ t
  · exact h
  · rw [hall t (by omega)] at hg; cases hg
theorem sitF_first {c : Ca} {l : List Gu} {f : Sp} {t : List Int} (ht : rightB c l t = true) (hbal : balB c l f t = true) : ∀ (m : Nat) (b : List Int), b.length + m = l.length → b = t.take b.length → ∃ a, sitF c l f m b = some a ∧ (a = t ∨ ∃ i, b.length ≤ i ∧ i < a.length ∧ a.take i = t.take i ∧ a.getD i 0 < t.getD i 0)
  | 0, b, hm, hb => by
    simp only [rightB, Bool.and_eq_true, decide_eq_true_eq] at ht
    have : b = t := by rw [hb, List.take_of_length_le (by omega)]
    exact ⟨b, by rw [sitF, this, if_pos hbal], .inl this⟩
  | m + 1, b, hm, hb => by
    have ht' := ht
    simp only [rightB, Bool.and_eq_true, decide_eq_true_eq, List.all_eq_true, List.mem_range] at ht'
    have hk := ht'.2 b.length (by omega)
    have hlt : b.length < t.length := by omega
    unfold seatOk at hk
    rw [← hb] at hk
    generalize hs : t.getD b.length 0 = s at hk
    have hs0 : 0 ≤ s ∧ s ≤ c.st.length - 1 := by
      simp [sitsB] at hk; exact hk.1.1
    obtain ⟨q, rfl⟩ : ∃ q : Nat, s = q := ⟨s.toNat, by omega⟩
    have hts : t.take (b.length + 1) = b ++ [(q : Int)] := by
      rw [take_snoc t hlt, ← hb]
      congr 2
    obtain ⟨a0, h0, _⟩ := sitF_first ht hbal m (b ++ [(q : Int)]) (by simp <;> omega) (by rw [← hts]; simp <;> omega)
    obtain ⟨j, a, hj, ha, hall, _⟩ := findSome_first (fun s : Nat => if sitsB c (guAt l b.length) b s = true then sitF c l f m (b ++ [(s : Int)]) else none) c.st.length q (by omega) (by rw [if_pos hk, h0]; rfl)
    refine ⟨a, by rw [sitF]; exact hall, ?_⟩
    split at ha
    · rename_i hjs
      by_cases hjq : j = q
      · subst hjq
        obtain ⟨a1, h1, h2⟩ := sitF_first ht hbal m (b ++ [(j : Int)]) (by simp <;> omega) (by rw [← hts]; simp <;> omega)
        rw [ha] at h1
        simp only [Option.some.injEq] at h1
        subst h1
        rcases h2 with h2 | ⟨i, i1, i2, i3, i4⟩
        · exact .inl h2
        · exact .inr ⟨i, by simp at i1; omega, i2, i3, i4⟩
      · right
        -- a begins with b ++ [j]
        have hsd : ∀ (m : Nat) (b a : List Int), sitF c l f m b = some a → a.take b.length = b ∧ b.length ≤ a.length := by
          intro m
          induction m with
          | zero => intro b a h; rw [sitF] at h; split at h <;> simp at h; subst h; simp
          | succ m ih =>
            intro b a h
            rw [sitF] at h
            obtain ⟨s, _, h1⟩ := List.exists_of_findSome?_eq_some h
            split at h1
            · obtain ⟨k1, k2⟩ := ih _ _ h1
              have := congrArg (List.take b.length) k1
              rw [List.take_take, List.take_left' rfl] at this
              exact ⟨by simpa [Nat.min_eq_left] using this, by simp at k2; omega⟩
            · simp at h1
        obtain ⟨k1, k2⟩ := hsd _ _ _ ha
        have k2' : b.length + 1 ≤ a.length := by simpa using k2
        refine ⟨b.length, Nat.le_refl _, by omega, ?_, ?_⟩
        · have := congrArg (List.take b.length) k1
          rw [List.take_take, List.take_left' rfl] at this
          rw [← hb]
          simpa [Nat.min_eq_left] using this
        · have : a.getD b.length 0 = (j : Int) := by
            have h3 : (a.take (b ++ [(j : Int)]).length).getD b.length 0 = (b ++ [(j : Int)]).getD b.length 0 := by rw [k1]
            simp [List.getD, List.getElem?_take] at h3
            simpa [List.getD] using h3
          rw [this, hs]; omega
    · simp at ha
end Go.Sx
end
