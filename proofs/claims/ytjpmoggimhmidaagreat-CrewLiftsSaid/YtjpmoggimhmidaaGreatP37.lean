/- A part of a proof; no conditions. -/
import Derived.Test.YtjpmoggimhmidaaGreatP36
import Derived.Test.YtjpmoggimhmidaaGreatP35
import Derived.Test.YtjpmoggimhmidaaGreatP30
set_option linter.unusedSimpArgs false
set_option linter.unusedVariables false
set_option linter.unusedSectionVars false
section
/- The reference's layer 2: Needs, Has, Margin. No conditions. -/
set_option linter.unusedSimpArgs false
set_option linter.unusedSectionVars false
set_option maxRecDepth 100000
set_option maxHeartbeats 8000000
namespace Go.Sx.Rot
open Go.Proofs Go.Sx Go.Sx.Tab
attribute [local irreducible] HLe
attribute [local simp] hps_app

def ndE (m : Ma) (s : Sp) : Int := if airE m = 0 then (if lyB (hovD m) = true ∧ lyB (groD m s) = true then 0 else 1) else airE m
def hsE (m : Ma) : Int := if airE m = 0 then (if lyB (powD m) = true then 0 else 1) else airE m
theorem air_rot {m : Ma} (h : airE m = 0) : rotB m.r = true := by
  unfold airE at h
  split at h
  · assumption
  · cases h
noncomputable abbrev ndS : PSpec := mkP mrE (fun d => RoP d.1.r) fun d => .tup [if ndE d.1 d.2 = 0 then .agg (needF d.1 d.2).row else .agg [.int .i64 0, .int .i64 0], .int .i64 (ndE d.1 d.2)]
noncomputable abbrev E37 : Env := { P := Tryz.prog, fn := tbl [(63, .pure airS), (64, .pure lyS), (65, .pure rneS)], own := [], key := 3700, nt := 38 }
theorem b37 : PureBody E37 [] Tryz.f37 ndS := by
  refine pb ?_
  rintro ⟨m, s⟩ hP
  have hP : RoP m.r := hP
  have da := arE_dec m
  have dm := mrE_dec m s
  by_cases h : airE m = 0
  case neg =>
    have hz : ndE m s = airE m := by simp [ndE, h]
    simp -dsimp [Tryz.f37, E37, Sp.row]
    repeat' (first | omega | (simp -dsimp [E37, ri, cellp, ints, Sp.row, hP, da, h, hz]) | (refine Also.intro ?_ fun _ => ?_) | (refine Hold.intro fun _ => ?_) | (refine And.intro ?_ ?_))
  have hr := air_rot h
  have hN := ne_of_rot s hP hr
  have hF := mtL_lk s hr
  have k0 : LkP (hovD m) := hF.e _ (by simp [mtL])
  have k1 : LkP (groD m s) := hF.e _ (by simp [mtL])
  have d3 : decC bdE [.agg [.sl 1 (m.r.h.xs.map ri), .sl 1 (m.r.h.ys.map ri), .sl 1 (m.r.h.vs.map rwI)], .agg [.int .i64 m.a.w.lo, .int .i64 m.a.w.hi], .agg [.int .i64 m.a.t.lo, .int .i64 m.a.t.hi]] = hovD m := bdE_dec _ _ _
  have d4 : decC bdE [.agg [.sl 1 (m.r.g.xs.map ri), .sl 1 (m.r.g.ys.map ri), .sl 1 (m.r.g.vs.map rwI)], .agg [.int .i64 s.lo, .int .i64 s.hi], .agg [.int .i64 m.a.v.lo, .int .i64 m.a.v.hi]] = groD m s := bdE_dec _ _ _
  have g1 : (hovD m).t = m.r.h ∧ (hovD m).a = m.a.w ∧ (hovD m).b = m.a.t := ⟨rfl, rfl, rfl⟩
  have g2 : (groD m s).t = m.r.g ∧ (groD m s).a = s ∧ (groD m s).b = m.a.v := ⟨rfl, rfl, rfl⟩
  cases e1 : lyB (hovD m)
  · have hz : ndE m s = 1 := by simp [ndE, h, e1]
    simp -dsimp [Tryz.f37, E37, Sp.row]
    repeat' (first | omega | (simp -dsimp [E37, ri, cellp, ints, Sp.row, hP, da, h, d3, g1, k0, e1, hz]) | (refine Also.intro ?_ fun _ => ?_) | (refine Hold.intro fun _ => ?_) | (refine And.intro ?_ ?_))
  cases e2 : lyB (groD m s)
  all_goals
    have hz : ndE m s = if lyB (groD m s) = true then 0 else 1 := by simp [ndE, h, e1]
    rw [e2] at hz
    simp -dsimp at hz
    simp -dsimp [Tryz.f37, E37, Sp.row]
    repeat' (first | omega | (simp -dsimp [E37, ri, cellp, ints, Sp.row, hP, da, dm, h, d3, d4, g1, g2, k0, k1, e1, e2, hN, hz]) | (refine Also.intro ?_ fun _ => ?_) | (refine Hold.intro fun _ => ?_) | (refine And.intro ?_ ?_))
theorem ok37 : FnOK Tryz.prog 37 (.pure ndS) := pure_fn (E := E37) rfl (.cons ok63 (.cons ok64 (.cons ok65 .nil))) (ok := []) (fn := Tryz.f37) (by kernel_rfl) (by kernel_rfl) (by kernel_rfl) (by kernel_rfl) rfl (fun _ _ => by simp) b37
noncomputable abbrev hsS : PSpec := mkP arE (fun m => RoP m.r) fun m => .tup [if hsE m = 0 then .agg (bndF (powD m)).row else .agg [.int .i64 0, .int .i64 0], .int .i64 (hsE m)]
noncomputable abbrev E38 : Env := { P := Tryz.prog, fn := tbl [(63, .pure airS), (64, .pure lyS), (66, .pure rb2S)], own := [], key := 3800, nt := 30 }
theorem b38 : PureBody E38 [] Tryz.f38 hsS := by
  refine pb ?_
  rintro m hP
  have hP : RoP m.r := hP
  have da := arE_dec m
  by_cases h : airE m = 0
  case neg =>
    have hz : hsE m = airE m := by simp [hsE, h]
    simp -dsimp [Tryz.f38, E38]
    repeat' (first | omega | (simp -dsimp [E38, ri, cellp, ints, hP, da, h, hz]) | (refine Also.intro ?_ fun _ => ?_) | (refine Hold.intro fun _ => ?_) | (refine And.intro ?_ ?_))
  have hr := air_rot h
  have hF := mtL_lk (m := m) ⟨0, 0⟩ hr
  have k2 : LkP (powD m) := hF.e _ (by simp [mtL])
  have pT : TbP m.r.p := hP.l ⟨m.r.p, 0, 100000⟩ (by simp [limL])
  have d5 : decC bdE [.agg [.sl 1 (m.r.p.xs.map ri), .sl 1 (m.r.p.ys.map ri), .sl 1 (m.r.p.vs.map rwI)], .agg [.int .i64 m.a.t.lo, .int .i64 m.a.t.hi], .agg [.int .i64 m.a.h.lo, .int .i64 m.a.h.hi]] = powD m := bdE_dec _ _ _
  have g3 : (powD m).t = m.r.p ∧ (powD m).a = m.a.t ∧ (powD m).b = m.a.h := ⟨rfl, rfl, rfl⟩
  cases e1 : lyB (powD m)
  all_goals
    have hz : hsE m = if lyB (powD m) = true then 0 else 1 := by simp [hsE, h]
    rw [e1] at hz
    simp -dsimp at hz
    simp -dsimp [Tryz.f38, E38]
    repeat' (first | omega | (simp -dsimp [E38, ri, cellp, ints, Sp.row, hP, da, h, d5, g3, k2, pT, e1, hz]) | (refine Also.intro ?_ fun _ => ?_) | (refine Hold.intro fun _ => ?_) | (refine And.intro ?_ ?_))
theorem ok38 : FnOK Tryz.prog 38 (.pure hsS) := pure_fn (E := E38) rfl (.cons ok63 (.cons ok64 (.cons ok66 .nil))) (ok := []) (fn := Tryz.f38) (by kernel_rfl) (by kernel_rfl) (by kernel_rfl) (by kernel_rfl) rfl (fun _ _ => by simp) b38
end Go.Sx.Rot
end
section
/- The reference's layer 2: Margin. No conditions. -/
set_option linter.unusedSimpArgs false
set_option linter.unusedSectionVars false
set_option maxRecDepth 100000
set_option maxHeartbeats 8000000
namespace Go.Sx.Rot
open Go.Proofs Go.Sx Go.Sx.Tab
attribute [local irreducible] HLe
attribute [local simp] hps_app

theorem lyB_of {m : Ma} {s : Sp} (h : (aiL m.a).any spN = false) : lyB (hovD m) = lkB (hovD m) ∧ lyB (groD m s) = (!spN s && lkB (groD m s)) ∧ lyB (powD m) = lkB (powD m) := by
  simp only [aiL, List.any_cons, List.any_nil, Bool.or_false, Bool.or_eq_false_iff] at h
  obtain ⟨h1, h2, h3, h4⟩ := h
  refine ⟨?_, ?_, ?_⟩
  · simp [lyB, hovD, h1, h2]
  · simp [lyB, groD, h4]
  · simp [lyB, powD, h2, h3]
/-- The errors of the two sides are the same. -/
theorem mg_ref (m : Ma) (s : Sp) : mgE m s = if ndE m s = 0 then hsE m else ndE m s := by
  unfold mgE ndE hsE
  by_cases h1 : rotB m.r = true
  · by_cases h2 : (aiL m.a).any spN = true
    · have ha : airE m = 21 := by simp only [airE, h1, h2, if_true]
      simp [h1, h2, ha]
    · have h2' : (aiL m.a).any spN = false := by simpa using h2
      have ha : airE m = 0 := by simp [airE, h1, h2']
      obtain ⟨e1, e2, e3⟩ := lyB_of (s := s) h2'
      rw [e1, e2, e3]
      simp only [h1, h2', ha, if_true, mtL, List.any_cons, List.any_nil, lkN]
      rcases Bool.eq_false_or_eq_true (spN s) with q0 | q0 <;> rcases Bool.eq_false_or_eq_true (lkB (hovD m)) with q1 | q1 <;> rcases Bool.eq_false_or_eq_true (lkB (groD m s)) with q2 | q2 <;> rcases Bool.eq_false_or_eq_true (lkB (powD m)) with q3 | q3 <;> simp [q0, q1, q2, q3]
  · have ha : airE m = 20 := by simp [airE, h1]
    simp [h1, ha]
noncomputable abbrev E23 : Env := { P := Tryz.prog, fn := tbl [(37, .pure ndS), (38, .pure hsS)], own := [], key := 2300, nt := 35 }
theorem b23 : PureBody E23 [] Tryz.f23 mrgS := by
  refine pb ?_
  rintro ⟨m, s⟩ hP
  have hP : RoP m.r := hP
  have dm := mrE_dec m s
  have da := arE_dec m
  have hE := mg_ref m s
  by_cases h1 : ndE m s = 0
  case neg =>
    rw [if_neg h1] at hE
    simp -dsimp [Tryz.f23, E23, Sp.row]
    repeat' (first | omega | (simp -dsimp [E23, ri, cellp, ints, Sp.row, hP, dm, h1, hE]) | (refine Also.intro ?_ fun _ => ?_) | (refine Hold.intro fun _ => ?_) | (refine And.intro ?_ ?_))
  rw [if_pos h1] at hE
  by_cases h2 : hsE m = 0
  case neg =>
    simp -dsimp [Tryz.f23, E23, Sp.row]
    repeat' (first | omega | (simp -dsimp [E23, ri, cellp, ints, Sp.row, hP, dm, da, h1, h2, hE]) | (refine Also.intro ?_ fun _ => ?_) | (refine Hold.intro fun _ => ?_) | (refine And.intro ?_ ?_))
  have hmg : mgE m s = 0 := by rw [hE, h2]
  have hN := mg_ne hP hmg
  have b := hN.bp
  have ba : -1000000 ≤ (bndF (powD m)).lo := b.a
  have bb : (bndF (powD m)).lo ≤ 1000000 := b.b
  have hw : -3000000000000 ≤ (needF m s).hi ∧ (needF m s).hi ≤ 3000000000000 := by
    have p2 := mulB hN.bh.c hN.bh.d hN.bg.c hN.bg.d
    have := tdB (n := (bndF (hovD m)).hi * (bndF (groD m s)).hi + 99) (by simp only at p2 ⊢; omega) (by simp only at p2 ⊢; omega)
    simp only [needF]; omega
  have w1 : IntKind.wrap .i64 ((bndF (powD m)).lo - (needF m s).hi) = (bndF (powD m)).lo - (needF m s).hi := wrap_id (by omega) (by omega)
  have hM : mgnF m s = (bndF (powD m)).lo - (needF m s).hi := rfl
  simp -dsimp [Tryz.f23, E23, Sp.row]
  repeat' (first | omega | (simp -dsimp [E23, ri, cellp, ints, Sp.row, hP, dm, da, h1, h2, hE, w1, hM]) | (refine Also.intro ?_ fun _ => ?_) | (refine Hold.intro fun _ => ?_) | (refine And.intro ?_ ?_))
theorem ok23 : FnOK Tryz.prog 23 (.pure mrgS) := pure_fn (E := E23) rfl (.cons ok37 (.cons ok38 .nil)) (ok := []) (fn := Tryz.f23) (by kernel_rfl) (by kernel_rfl) (by kernel_rfl) (by kernel_rfl) rfl (fun _ _ => by simp) b23
end Go.Sx.Rot
end
section
/- Rotor, plain: in a part of an air there are no other errors, and the margin is not less. No conditions. -/
set_option linter.unusedSimpArgs false
set_option linter.unusedSectionVars false
namespace Go.Sx.Rot
open Go.Proofs Go.Sx Go.Sx.Tab

structure Ins (s' s : Sp) : Prop where
  a : s.lo ≤ s'.lo
  b : s'.lo ≤ s'.hi
  c : s'.hi ≤ s.hi
theorem Ins.refl {s : Sp} (h : spN s = false) : Ins s s := by
  rw [spN_eq] at h
  simp only [Bool.not_eq_false', decide_eq_true_eq] at h
  exact ⟨Int.le_refl _, h.2.1, Int.le_refl _⟩
structure AiIn (a' a : Ai) : Prop where
  w : Ins a'.w a.w
  t : Ins a'.t a.t
  h : Ins a'.h a.h
  v : Ins a'.v a.v
theorem spN_part {s s' : Sp} (h : spN s = false) (hi : Ins s' s) : spN s' = false := by
  rw [spN_eq] at *
  simp only [Bool.not_eq_false', decide_eq_true_eq] at *
  have := hi.a; have := hi.b; have := hi.c
  omega
theorem lieB_part {l : List Int} {s s' : Sp} (h : lieB l s = true) (hi : Ins s' s) : lieB l s' = true := by
  unfold lieB at *
  simp only [Bool.and_eq_true, decide_eq_true_eq] at *
  have := hi.a; have := hi.b; have := hi.c
  omega
theorem lkB_part {d d' : BdD} (h : lkB d = true) (ht : d'.t = d.t) (ha : Ins d'.a d.a) (hb : Ins d'.b d.b) : lkB d' = true := by
  unfold lkB at *
  simp only [Bool.and_eq_true] at *
  rw [ht]
  exact ⟨lieB_part h.1 ha, lieB_part h.2 hb⟩
theorem bdErr_part {d d' : BdD} (h : bdErr d = 0) (ht : d'.t = d.t) (ha : Ins d'.a d.a) (hb : Ins d'.b d.b) : bdErr d' = 0 := by
  unfold bdErr at *
  split at h
  case isFalse => cases h
  rename_i h1
  split at h
  case isTrue => cases h
  rename_i h2
  split at h
  case isFalse => cases h
  rename_i h3
  simp only [List.any_cons, List.any_nil, Bool.or_false, Bool.or_eq_true, not_or, Bool.not_eq_true] at h2
  have := lkB_part (d := d) (d' := d') h3 ht ha hb
  rw [ht, if_pos h1, if_neg (by simp [spN_part h2.1 ha, spN_part h2.2 hb]), if_pos (by rw [← ht]; exact this)]
theorem bndF_part {d d' : BdD} (h : bdErr d = 0) (ht : d'.t = d.t) (ha : Ins d'.a d.a) (hb : Ins d'.b d.b) : (bndF d).lo ≤ (bndF d').lo ∧ (bndF d').hi ≤ (bndF d).hi := by
  have h' := bdErr_part h ht ha hb
  rw [bndF, if_pos h, bndF, if_pos h']
  exact bound_in h h' ht ha.a ha.c hb.a hb.c
theorem mg_part {r : Ro} {a a' : Ai} {s : Sp} (h : mgE ⟨r, a⟩ s = 0) (hi : AiIn a' a) : mgE ⟨r, a'⟩ s = 0 ∧ mgnF ⟨r, a⟩ s ≤ mgnF ⟨r, a'⟩ s := by
  have f := mg_facts h
  have hs : spN s = false := by
    obtain ⟨_, hb, _⟩ := bdErr_ok f.g
    rw [spN_eq]
    simp only [Bool.not_eq_false', decide_eq_true_eq]
    exact hb
  have hs := Ins.refl hs
  constructor
  · unfold mgE at h ⊢
    split at h
    case isFalse => cases h
    rename_i h1
    split at h
    case isTrue => cases h
    rename_i h2
    split at h
    case isTrue => cases h
    rename_i h3
    rw [if_pos h1]
    simp only [aiL, List.any_cons, List.any_nil, Bool.or_false, Bool.or_eq_true, not_or, Bool.not_eq_true] at h2
    obtain ⟨w, t, hh, v⟩ := h2
    rw [if_neg (by simp [aiL, spN_part w hi.w, spN_part t hi.t, spN_part hh hi.h, spN_part v hi.v])]
    simp only [mtL, List.any_cons, List.any_nil, Bool.or_false, Bool.or_eq_true, not_or, Bool.not_eq_true, lkN, Bool.not_eq_false'] at h3
    obtain ⟨sN, k0, k1, k2⟩ := h3
    have e0 := lkB_part (d' := hovD ⟨r, a'⟩) k0 rfl hi.w hi.t
    have e1 := lkB_part (d' := groD ⟨r, a'⟩ s) k1 rfl hs hi.v
    have e2 := lkB_part (d' := powD ⟨r, a'⟩) k2 rfl hi.t hi.h
    rw [if_neg (by simp [mtL, lkN, sN, e0, e1, e2])]
  · have c0 := bndF_part (d' := hovD ⟨r, a'⟩) f.h rfl hi.w hi.t
    have c1 := bndF_part (d' := groD ⟨r, a'⟩ s) f.g rfl hs hi.v
    have c2 := bndF_part (d' := powD ⟨r, a'⟩) f.p rfl hi.t hi.h
    have p0 := bnd_of f.h (L := 0) (H := 100000) f.vh
    have p1 := bnd_of f.g (L := 0) (H := 100) f.vg
    have q0 := bnd_of (bdErr_part (d' := hovD ⟨r, a'⟩) f.h rfl hi.w hi.t) (L := 0) (H := 100000) f.vh
    have q1 := bnd_of (bdErr_part (d' := groD ⟨r, a'⟩ s) f.g rfl hs hi.v) (L := 0) (H := 100) f.vg
    have m1 : (bndF (hovD ⟨r, a'⟩)).hi * (bndF (groD ⟨r, a'⟩ s)).hi ≤ (bndF (hovD ⟨r, a⟩)).hi * (bndF (groD ⟨r, a⟩ s)).hi :=
      Int.le_trans (Int.mul_le_mul_of_nonneg_right c0.2 (by omega)) (Int.mul_le_mul_of_nonneg_left c1.2 (by omega))
    have m0 : 0 ≤ (bndF (hovD ⟨r, a'⟩)).hi * (bndF (groD ⟨r, a'⟩ s)).hi := Int.mul_nonneg (by omega) (by omega)
    simp only [mgnF, needF]
    rw [Int.tdiv_eq_ediv_of_nonneg (by omega), Int.tdiv_eq_ediv_of_nonneg (by omega)]
    have := Int.ediv_le_ediv (c := 100) (by omega) (show (bndF (hovD ⟨r, a'⟩)).hi * (bndF (groD ⟨r, a'⟩ s)).hi + 99 ≤ (bndF (hovD ⟨r, a⟩)).hi * (bndF (groD ⟨r, a⟩ s)).hi + 99 by omega)
    omega
end Go.Sx.Rot
end
section
/- Rotor: bounds of tables and rotors, copies. No conditions. -/
set_option linter.unusedSimpArgs false
set_option linter.unusedSectionVars false
set_option maxRecDepth 100000
set_option maxHeartbeats 8000000
namespace Go.Sx.Rot
open Go.Proofs Go.Sx Go.Sx.Tab
attribute [local irreducible] HLe
attribute [local simp] hps_app

def rowN (r : List Int) : Bool := decide (15 < r.length)
def farT (t : Tb) : Bool := decide (15 < t.xs.length) || (decide (15 < t.ys.length) || (decide (15 < t.vs.length) || t.vs.any rowN))
noncomputable abbrev farS : PSpec := mkP tbE (fun _ => True) fun t => .bool (farT t)
noncomputable abbrev E15 : Env := { P := Tryz.prog, fn := tbl [], own := [], key := 1500, nt := 34 }
theorem b15 : PureBody E15 [] Tryz.f15 farS := by
  refine pb ?_
  rintro t _
  by_cases h1 : 15 < t.xs.length
  · have hz : farT t = true := by simp [farT, h1]
    have h1' : ((15 : Int) < t.xs.length) = True := eq_true (by omega)
    simp -dsimp [Tryz.f15, E15, tabR]
    repeat' (first | omega | (simp -dsimp [E15, ri, cellp, ints, h1', hz]) | (refine Also.intro ?_ fun _ => ?_) | (refine Hold.intro fun _ => ?_) | (refine And.intro ?_ ?_))
  have h1' : ((15 : Int) < t.xs.length) = False := eq_false (by omega)
  by_cases h2 : 15 < t.ys.length
  · have hz : farT t = true := by simp [farT, h2]
    have h2' : ((15 : Int) < t.ys.length) = True := eq_true (by omega)
    simp -dsimp [Tryz.f15, E15, tabR]
    repeat' (first | omega | (simp -dsimp [E15, ri, cellp, ints, h1', h2', hz]) | (refine Also.intro ?_ fun _ => ?_) | (refine Hold.intro fun _ => ?_) | (refine And.intro ?_ ?_))
  have h2' : ((15 : Int) < t.ys.length) = False := eq_false (by omega)
  by_cases h3 : 15 < t.vs.length
  · have hz : farT t = true := by simp [farT, h3]
    have h3' : ((15 : Int) < t.vs.length) = True := eq_true (by omega)
    simp -dsimp [Tryz.f15, E15, tabR]
    repeat' (first | omega | (simp -dsimp [E15, ri, cellp, ints, h1', h2', h3', hz]) | (refine Also.intro ?_ fun _ => ?_) | (refine Hold.intro fun _ => ?_) | (refine And.intro ?_ ?_))
  have h3' : ((15 : Int) < t.vs.length) = False := eq_false (by omega)
  have hE : farT t = t.vs.any rowN := by simp [farT, h1, h2, h3]
  simp -dsimp [Tryz.f15, E15, tabR]
  repeat' (first | omega | (simp -dsimp [E15, ri, cellp, ints, h1', h2', h3']) | (refine Also.intro ?_ fun _ => ?_) | (refine Hold.intro fun _ => ?_) | (refine And.intro ?_ ?_))
  refine awp_loop [20, 21, 22, 23, 24, 27, 28, 29, 30, 31, 32, 33, 2, 25, 26, 3] (fun k : { k : Nat // k ≤ t.vs.length ∧ (t.vs.take k).any rowN = false } => [(3, (true, .int .i64 k.1))]) (fun _ => hps [(1501, tbS t)] noH) (fun k => t.vs.length - k.1) ⟨0, by omega, by simp⟩ ?_ ?_ ?_
  · simp [okAll, okv]
  · exact (by (try simp -dsimp only [hpush_noH, hpush_hps, hps_over]); refine hle_hps ?_; simp -dsimp [allK, tbS]; repeat' (first | (refine And.intro ?_ ?_) | (refine sLe.same ?_ ?_ <;> (simp; done)) | (refine sLe.clear ?_ ?_ <;> (first | (simp; done) | (simp; omega))) | (refine sLe.drop 1 ?_ ?_ ?_ <;> (simp; done))))
  rintro ⟨k, hk, hall⟩
  dsimp only
  by_cases hk1 : k < t.vs.length
  · have hki : (k : Int) < t.vs.length := by omega
    have wk : IntKind.wrap .i64 ((k : Int) + 1) = (k + 1 : Nat) := wrap_id (by omega) (by omega)
    obtain ⟨x, hx, hx'⟩ := get_ex hk1
    by_cases c : 15 < x.length
    · have ci : ((15 : Int) < x.length) = True := eq_true (by omega)
      have hz : farT t = true := by
        rw [hE, List.any_eq_true]
        exact ⟨x, hx' ▸ List.getElem_mem hk1, by simp [rowN, c]⟩
      simp -dsimp [hki]
      repeat' (first | omega | (simp -dsimp [E15, ri, cellp, ints, hki, hk1, hx, hx', rwI, tbS, c, ci, hz]) | (refine Also.intro ?_ fun _ => ?_) | (refine Hold.intro fun _ => ?_) | (refine And.intro ?_ ?_))
    · have ci : ((15 : Int) < x.length) = False := eq_false (by omega)
      simp -dsimp [hki]
      repeat' (first | omega | (simp -dsimp [E15, ri, cellp, ints, hki, hk1, hx, hx', rwI, tbS, c, ci, wk]) | (refine Also.intro ?_ fun _ => ?_) | (refine Hold.intro fun _ => ?_) | (refine And.intro ?_ ?_))
      refine ⟨k + 1, tle_chain rfl ?_, ?_, ⟨by omega, ?_⟩, by omega⟩
      · simp [okAll, okv]
      · exact (by (try simp -dsimp only [hpush_noH, hpush_hps, hps_over]); refine hle_hps ?_; simp -dsimp [allK, tbS]; repeat' (first | (refine And.intro ?_ ?_) | (refine sLe.same ?_ ?_ <;> (simp; done)) | (refine sLe.clear ?_ ?_ <;> (first | (simp; done) | (simp; omega))) | (refine sLe.drop 1 ?_ ?_ ?_ <;> (simp; done))))
      · have hj' : (t.vs.take (k + 1)).any rowN = false := by rw [List.take_add_one, List.any_append, hall, hx]; simp [rowN, c]
        simpa using hj'
  · have hkn : ¬ (k : Int) < t.vs.length := by omega
    have hk2 : k = t.vs.length := by omega
    have hz : farT t = false := by rw [hE, ← hall, hk2, List.take_length]
    simp -dsimp [hkn]
    repeat' (first | omega | (simp -dsimp [E15, ri, cellp, ints, hkn, tbS, hz]) | (refine Also.intro ?_ fun _ => ?_) | (refine Hold.intro fun _ => ?_) | (refine And.intro ?_ ?_))
theorem ok15 : FnOK Tryz.prog 15 (.pure farS) := pure_fn (E := E15) rfl LOK.nil (ok := []) (fn := Tryz.f15) (by kernel_rfl) (by kernel_rfl) (by kernel_rfl) (by kernel_rfl) rfl (fun _ _ => by simp) b15
def farR (r : Ro) : Bool := farT r.h || (farT r.g || (farT r.l || (farT r.p || (farT r.n || (farT r.rl || (farT r.rh || farT r.gl))))))
noncomputable abbrev farrS : PSpec := mkP roE (fun _ => True) fun r => .bool (farR r)
theorem far_dec (t : Tb) : decC tbE [.agg [.sl 1 (t.xs.map ri), .sl 1 (t.ys.map ri), .sl 1 (t.vs.map rwI)]] = t := decC_eq tbE_inj t
noncomputable abbrev E4 : Env := { P := Tryz.prog, fn := tbl [(15, .pure farS)], own := [], key := 400, nt := 41 }
theorem b4 : PureBody E4 [] Tryz.f4 farrS := by
  refine pb ?_
  rintro r _
  have d0 := far_dec r.h
  have d1 := far_dec r.g
  have d2 := far_dec r.l
  have d3 := far_dec r.p
  have d4 := far_dec r.n
  have d5 := far_dec r.rl
  have d6 := far_dec r.rh
  have d7 := far_dec r.gl
  cases h0 : farT r.h
  case true =>
    have hz : farR r = true := by simp [farR, h0]
    simp -dsimp [Tryz.f4, E4]
    repeat' (first | omega | (simp -dsimp [E4, ri, cellp, ints, d0, h0, hz]) | (refine Also.intro ?_ fun _ => ?_) | (refine Hold.intro fun _ => ?_) | (refine And.intro ?_ ?_))
  cases h1 : farT r.g
  case true =>
    have hz : farR r = true := by simp [farR, h1]
    simp -dsimp [Tryz.f4, E4]
    repeat' (first | omega | (simp -dsimp [E4, ri, cellp, ints, d0, h0, d1, h1, hz]) | (refine Also.intro ?_ fun _ => ?_) | (refine Hold.intro fun _ => ?_) | (refine And.intro ?_ ?_))
  cases h2 : farT r.l
  case true =>
    have hz : farR r = true := by simp [farR, h2]
    simp -dsimp [Tryz.f4, E4]
    repeat' (first | omega | (simp -dsimp [E4, ri, cellp, ints, d0, h0, d1, h1, d2, h2, hz]) | (refine Also.intro ?_ fun _ => ?_) | (refine Hold.intro fun _ => ?_) | (refine And.intro ?_ ?_))
  cases h3 : farT r.p
  case true =>
    have hz : farR r = true := by simp [farR, h3]
    simp -dsimp [Tryz.f4, E4]
    repeat' (first | omega | (simp -dsimp [E4, ri, cellp, ints, d0, h0, d1, h1, d2, h2, d3, h3, hz]) | (refine Also.intro ?_ fun _ => ?_) | (refine Hold.intro fun _ => ?_) | (refine And.intro ?_ ?_))
  cases h4 : farT r.n
  case true =>
    have hz : farR r = true := by simp [farR, h4]
    simp -dsimp [Tryz.f4, E4]
    repeat' (first | omega | (simp -dsimp [E4, ri, cellp, ints, d0, h0, d1, h1, d2, h2, d3, h3, d4, h4, hz]) | (refine Also.intro ?_ fun _ => ?_) | (refine Hold.intro fun _ => ?_) | (refine And.intro ?_ ?_))
  cases h5 : farT r.rl
  case true =>
    have hz : farR r = true := by simp [farR, h5]
    simp -dsimp [Tryz.f4, E4]
    repeat' (first | omega | (simp -dsimp [E4, ri, cellp, ints, d0, h0, d1, h1, d2, h2, d3, h3, d4, h4, d5, h5, hz]) | (refine Also.intro ?_ fun _ => ?_) | (refine Hold.intro fun _ => ?_) | (refine And.intro ?_ ?_))
  cases h6 : farT r.rh
  case true =>
    have hz : farR r = true := by simp [farR, h6]
    simp -dsimp [Tryz.f4, E4]
    repeat' (first | omega | (simp -dsimp [E4, ri, cellp, ints, d0, h0, d1, h1, d2, h2, d3, h3, d4, h4, d5, h5, d6, h6, hz]) | (refine Also.intro ?_ fun _ => ?_) | (refine Hold.intro fun _ => ?_) | (refine And.intro ?_ ?_))
  have hz : farR r = farT r.gl := by simp [farR, h0, h1, h2, h3, h4, h5, h6]
  simp -dsimp [Tryz.f4, E4]
  repeat' (first | omega | (simp -dsimp [E4, ri, cellp, ints, d0, h0, d1, h1, d2, h2, d3, h3, d4, h4, d5, h5, d6, h6, d7, hz]) | (refine Also.intro ?_ fun _ => ?_) | (refine Hold.intro fun _ => ?_) | (refine And.intro ?_ ?_))
theorem ok4 : FnOK Tryz.prog 4 (.pure farrS) := pure_fn (E := E4) rfl (.cons ok15 .nil) (ok := []) (fn := Tryz.f4) (by kernel_rfl) (by kernel_rfl) (by kernel_rfl) (by kernel_rfl) rfl (fun _ _ => by simp) b4
end Go.Sx.Rot
end
