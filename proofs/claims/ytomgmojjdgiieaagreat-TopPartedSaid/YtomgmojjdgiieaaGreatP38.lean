/- A part of a proof; no conditions. -/
import Derived.Test.YtomgmojjdgiieaaGreatP37
set_option linter.unusedSimpArgs false
set_option linter.unusedVariables false
set_option linter.unusedSectionVars false
section
/- Engine: a craft at a field: newSite, Rates, down, away. No conditions. -/
set_option linter.unusedSimpArgs false
set_option linter.unusedSectionVars false
set_option maxRecDepth 100000
set_option maxHeartbeats 8000000
namespace Go.Sx.Rot
open Go.Proofs Go.Sx Go.Sx.Tab
attribute [local irreducible] HLe
attribute [local simp] hps_app
theorem boolL_inj {a b : List Bool} (h : a.map bI = b.map bI) : a = b := mapRow_inj (fun x y e => by simpa [bI] using e) h
theorem bwI_inj (a b : List Bool) (h : bwI a = bwI b) : a = b := boolL_inj (by simpa [bwI] using h)
theorem CX.row_inj (a b : CX) (h : a.row = b.row) : a = b := by
  obtain ⟨a1, a2, a3, a4⟩ := a; obtain ⟨b1, b2, b3, b4⟩ := b
  have h1 : a1.row = b1.row := by have := congrArg (List.take 33) h; simpa only [CX.row, cx_t33] using this
  have h2 := congrArg (List.drop 33) h
  simp only [CX.row, cx_d33, List.cons.injEq, V.sl.injEq, true_and, and_true] at h2
  rw [Cr.row_inj _ _ h1, mapRow_inj (fun x y e => ri_inj (by simpa using e)) h2.1, mapRow_inj (fun x y e => ri_inj (by simpa using e)) h2.2.1, mapRow_inj bwI_inj h2.2.2]
theorem cx_r0 (x : CX) : x.row[33]? = some (.sl 1 (x.r0.map ri)) := rfl
theorem cx_r1 (x : CX) : x.row[34]? = some (.sl 1 (x.r1.map ri)) := rfl
theorem cx_wk (x : CX) : x.row[35]? = some (.sl 1 (x.wk.map bwI)) := rfl
theorem cx_top (x : CX) : x.row[29]? = some (.int .i64 x.c.top) := rfl
theorem cx_drop (x : CX) : x.row[30]? = some (.int .i64 x.c.drop) := rfl
theorem cx_touch (x : CX) : x.row[31]? = some (.int .i64 x.c.touch) := rfl
theorem cx_sink (x : CX) : x.row[32]? = some (.int .i64 x.c.sink) := rfl
theorem cx_len (x : CX) : x.row.length = 36 := rfl
attribute [simp] cx_r0 cx_r1 cx_wk cx_top cx_drop cx_touch cx_sink cx_len
@[simp] theorem cxr_free (x : CX) : x.row.all V.refFree = true := rfl
@[simp] theorem cxr_free1 (x : CX) : x.row.all V.refFree1 = true := rfl
@[simp] theorem cxr_cell (x : CX) : x.row.all V.cell1 = true := rfl
@[simp] theorem cxr_leaf (x : CX) : x.row.all V.leaf = true := rfl
@[simp] theorem cxr_subs (x : CX) : subs0 x.row x.row = True := eq_true (subs0_refl _)
structure St where
  x : CX
  f : Fl
  deriving Inhabited
def St.row (s : St) : List V := [.ip 36 [s.x.row] 0 0, .int .i64 s.f.len, .int .i64 s.f.clr, .int .i64 s.f.safe, .sl 2 (s.f.hs.map Hi.row)]
theorem St.row_inj (a b : St) (h : a.row = b.row) : a = b := by
  obtain ⟨a1, ⟨a2, a3, a4, a5⟩⟩ := a; obtain ⟨b1, ⟨b2, b3, b4, b5⟩⟩ := b
  simp only [St.row, List.cons.injEq, V.ip.injEq, V.int.injEq, V.sl.injEq, true_and, and_true] at h
  rw [CX.row_inj _ _ h.1, h.2.1, h.2.2.1, h.2.2.2.1, mapRow_inj Hi.row_inj h.2.2.2.2]
structure Po where
  x : Int
  v : Int
  h : Int
  deriving DecidableEq, Inhabited
def Po.row (p : Po) : List V := [.int .i64 p.x, .int .i64 p.v, .int .i64 p.h]
theorem Po.row_inj (a b : Po) (h : a.row = b.row) : a = b := by
  obtain ⟨a1, a2, a3⟩ := a; obtain ⟨b1, b2, b3⟩ := b
  simpa [Po.row] using h
@[simp] def nsE (d : Cr × Ai × Fl) : List V := [.agg d.1.row, .agg d.2.1.row, .agg d.2.2.row]
theorem nsE_inj (a b : Cr × Ai × Fl) (h : nsE a = nsE b) : a = b := by
  obtain ⟨a1, a2, a3⟩ := a; obtain ⟨b1, b2, b3⟩ := b
  simp only [nsE, List.cons.injEq, V.agg.injEq, true_and, and_true] at h
  rw [Cr.row_inj _ _ h.1, Ai.row_inj _ _ h.2.1, Fl.row_inj _ _ h.2.2]
theorem caA_dec' (c : Cr) (a : Ai) : decC caA [.agg c.row, .agg [.int .i64 a.w.lo, .int .i64 a.w.hi, .int .i64 a.t.lo, .int .i64 a.t.hi, .int .i64 a.h.lo, .int .i64 a.h.hi, .int .i64 a.v.lo, .int .i64 a.v.hi]] = (c, a) := decC_eq caA_inj (c, a)
def nsW (c : Cr) (a : Ai) (f : Fl) : Int := if caE c a = 0 then fdE f else caE c a
noncomputable abbrev nsS : PSpec := mkP nsE (fun d => RoP d.1.r) fun d => .tup [if caE d.1 d.2.1 = 0 then .agg (St.row ⟨ncF d.1 d.2.1, d.2.2⟩) else .agg [.nilp, .int .i64 0, .int .i64 0, .int .i64 0, .nil], .int .i64 (nsW d.1 d.2.1 d.2.2)]
noncomputable abbrev E42 : Env := { P := Tryz.prog, fn := tbl [(28, .pure ncS), (75, .pure fdS)], own := [], key := 4200, nt := 25 }
theorem b42 : PureBody E42 [(4, ([], [[0, 1, 2, 3, 4, 5, 6]]))] Tryz.f42 nsS := by
  refine pb ?_
  rintro ⟨c, a, f⟩ hP
  have hP : RoP c.r := hP
  have d1 := caA_dec' c a
  have d2 := flE_dec f
  by_cases h : caE c a = 0
  · simp -dsimp [Tryz.f42, E42, St.row, Fl.row, Ai.row]
    repeat' (first | omega | (simp -dsimp [E42, ri, cellp, ints, St.row, Fl.row, d1, d2, hP, h, nsW]) | (refine Also.intro ?_ fun _ => ?_) | (refine Hold.intro fun _ => ?_) | (refine And.intro ?_ ?_))
  · simp -dsimp [Tryz.f42, E42, St.row, Fl.row, Ai.row]
    repeat' (first | omega | (simp -dsimp [E42, ri, cellp, ints, St.row, Fl.row, d1, d2, hP, h, nsW]) | (refine Also.intro ?_ fun _ => ?_) | (refine Hold.intro fun _ => ?_) | (refine And.intro ?_ ?_))
theorem ok42 : FnOK Tryz.prog 42 (.pure nsS) := pure_fn (E := E42) rfl (.cons ok28 (.cons ok75 .nil)) (ok := [(4, ([], [[0, 1, 2, 3, 4, 5, 6]]))]) (fn := Tryz.f42) (by kernel_rfl) (by kernel_rfl) (by kernel_rfl) (by kernel_rfl) rfl (fun _ _ => by simp) b42
@[simp] def boE (b : Bool) : List V := [.bool b]
noncomputable abbrev egS : PSpec := mkP boE (fun _ => True) fun b => .int .i64 (if b = true then 1 else 0)
theorem boE_inj (a b : Bool) (h : boE a = boE b) : a = b := by simpa using h
theorem boE_dec (b : Bool) : decC boE [.bool b] = b := decC_eq boE_inj b
noncomputable abbrev E29 : Env := { P := Tryz.prog, fn := tbl [], own := [], key := 2900, nt := 4 }
theorem b29 : PureBody E29 [] Tryz.f29 egS := by
  refine pb ?_
  rintro b _
  cases b
  all_goals
    simp -dsimp [Tryz.f29, E29]
    repeat' (first | omega | (simp -dsimp [E29, ri, cellp, ints, boE]) | (refine Also.intro ?_ fun _ => ?_) | (refine Hold.intro fun _ => ?_) | (refine And.intro ?_ ?_))
theorem ok29 : FnOK Tryz.prog 29 (.pure egS) := pure_fn (E := E29) rfl LOK.nil (ok := []) (fn := Tryz.f29) (by kernel_rfl) (by kernel_rfl) (by kernel_rfl) (by kernel_rfl) rfl (fun _ _ => by simp) b29
@[simp] def rtsE (d : Cr × Ai × Bool) : List V := [.agg d.1.row, .agg d.2.1.row, .bool d.2.2]
theorem rtsE_inj (a b : Cr × Ai × Bool) (h : rtsE a = rtsE b) : a = b := by
  obtain ⟨a1, a2, a3⟩ := a; obtain ⟨b1, b2, b3⟩ := b
  simp only [rtsE, List.cons.injEq, V.agg.injEq, V.bool.injEq, true_and, and_true] at h
  rw [Cr.row_inj _ _ h.1, Ai.row_inj _ _ h.2.1, h.2.2]
noncomputable abbrev ratS : PSpec := mkP rtsE (fun d => RoP d.1.r) fun d => .tup [if caE d.1 d.2.1 = 0 then .sl 1 ((if d.2.2 = true then (ncF d.1 d.2.1).r1 else (ncF d.1 d.2.1).r0).map ri) else .nil, .int .i64 (caE d.1 d.2.1)]
noncomputable abbrev E12 : Env := { P := Tryz.prog, fn := tbl [(28, .pure ncS), (29, .pure egS)], own := [], key := 1200, nt := 26 }
theorem b12 : PureBody E12 [(4, ([], [[0, 1, 2, 3, 4, 5, 6, 7, 8]]))] Tryz.f12 ratS := by
  refine pb ?_
  rintro ⟨c, a, b⟩ hP
  have hP : RoP c.r := hP
  have d1 := caA_dec' c a
  have d2 := boE_dec b
  by_cases h : caE c a = 0
  · cases b
    all_goals
      simp -dsimp [Tryz.f12, E12, Ai.row]
      repeat' (first | omega | (simp -dsimp [E12, ri, cellp, ints, Ai.row, d1, d2, hP, h]) | (refine Also.intro ?_ fun _ => ?_) | (refine Hold.intro fun _ => ?_) | (refine And.intro ?_ ?_))
  · simp -dsimp [Tryz.f12, E12, Ai.row]
    repeat' (first | omega | (simp -dsimp [E12, ri, cellp, ints, Ai.row, d1, d2, hP, h]) | (refine Also.intro ?_ fun _ => ?_) | (refine Hold.intro fun _ => ?_) | (refine And.intro ?_ ?_))
theorem ok12 : FnOK Tryz.prog 12 (.pure ratS) := pure_fn (E := E12) rfl (.cons ok28 (.cons ok29 .nil)) (ok := [(4, ([], [[0, 1, 2, 3, 4, 5, 6, 7, 8]]))]) (fn := Tryz.f12) (by kernel_rfl) (by kernel_rfl) (by kernel_rfl) (by kernel_rfl) rfl (fun _ _ => by simp) b12
structure StP (s : St) : Prop where
  i : crI s.x.c = true
  f : fdB s.f = true
  r0 : (s.x.r0.length : Int) = s.x.c.top + 1
  r1 : (s.x.r1.length : Int) = s.x.c.top + 1
  wk : (s.x.wk.length : Int) = s.x.c.top + 1
  wr : ∀ l ∈ s.x.wk, (l.length : Int) = s.x.c.drop + 1
  b0 : ∀ n ∈ s.x.r0, -1000000000 ≤ n ∧ n ≤ 1000000000
  b1 : ∀ n ∈ s.x.r1, -1000000000 ≤ n ∧ n ≤ 1000000000
structure PoP (s : St) (p : Po) : Prop where
  x0 : 0 ≤ p.x
  x1 : p.x ≤ 40
  v0 : 0 ≤ p.v
  v1 : p.v ≤ s.x.c.top
  h0 : 0 ≤ p.h
  h1 : p.h ≤ 12
@[simp] def spoE (d : St × Po) : List V := [.agg d.1.row, .agg d.2.row]
theorem spoE_inj (a b : St × Po) (h : spoE a = spoE b) : a = b := by
  obtain ⟨a1, a2⟩ := a; obtain ⟨b1, b2⟩ := b
  simp only [spoE, List.cons.injEq, V.agg.injEq, true_and, and_true] at h
  rw [St.row_inj _ _ h.1, Po.row_inj _ _ h.2]
structure SpoP (d : St × Po) : Prop where
  s : StP d.1
  p : PoP d.1 d.2
def downB (s : St) (p : Po) : Bool := decide (p.h = 0) && (decide (p.v ≤ s.x.c.touch) && withinB p.x 0 s.f.len)
noncomputable abbrev dowS : PSpec := mkP spoE (fun _ => True) fun d => .bool (downB d.1 d.2)
noncomputable abbrev E80 : Env := { P := Tryz.prog, fn := tbl [(87, .pure withinS)], own := [], key := 8000, nt := 27 }
theorem b80 : PureBody E80 [(1, ([], [[0, 1, 2, 3, 4, 5, 6, 7, 8, 9, 10, 11, 12, 13, 14, 15, 16, 17, 18, 19, 20, 21, 22]]))] Tryz.f80 dowS := by
  refine pb ?_
  rintro ⟨s, p⟩ _
  have hz : downB s p = (decide (p.h = 0) && (decide (p.v ≤ s.x.c.touch) && withinB p.x 0 s.f.len)) := rfl
  by_cases h1 : p.h = 0
  · by_cases h2 : p.v ≤ s.x.c.touch
    · simp -dsimp [Tryz.f80, E80, St.row, Po.row]
      repeat' (first | omega | (simp -dsimp [E80, ri, cellp, ints, St.row, Po.row, h1, h2, hz]) | (refine Also.intro ?_ fun _ => ?_) | (refine Hold.intro fun _ => ?_) | (refine And.intro ?_ ?_))
    · have h2' : (p.v ≤ s.x.c.touch) = False := eq_false h2
      simp -dsimp [Tryz.f80, E80, St.row, Po.row]
      repeat' (first | omega | (simp -dsimp [E80, ri, cellp, ints, St.row, Po.row, h1, h2', hz]) | (refine Also.intro ?_ fun _ => ?_) | (refine Hold.intro fun _ => ?_) | (refine And.intro ?_ ?_))
  · simp -dsimp [Tryz.f80, E80, St.row, Po.row]
    repeat' (first | omega | (simp -dsimp [E80, ri, cellp, ints, St.row, Po.row, h1, hz]) | (refine Also.intro ?_ fun _ => ?_) | (refine Hold.intro fun _ => ?_) | (refine And.intro ?_ ?_))
theorem ok80 : FnOK Tryz.prog 80 (.pure dowS) := pure_fn (E := E80) rfl (.cons ok87 .nil) (ok := [(1, ([], [[0, 1, 2, 3, 4, 5, 6, 7, 8, 9, 10, 11, 12, 13, 14, 15, 16, 17, 18, 19, 20, 21, 22]]))]) (fn := Tryz.f80) (by kernel_rfl) (by kernel_rfl) (by kernel_rfl) (by kernel_rfl) rfl (fun _ _ => by simp) b80
def r1At (s : St) (v : Int) : Int := s.x.r1.getD v.toNat 0
def awayB (s : St) (p : Po) : Bool := decide (s.f.clr ≤ p.h) && (decide (s.f.safe ≤ p.v) && decide (0 ≤ r1At s p.v))
noncomputable abbrev awyS : PSpec := mkP spoE SpoP fun d => .bool (awayB d.1 d.2)
noncomputable abbrev E48 : Env := { P := Tryz.prog, fn := tbl [], own := [], key := 4800, nt := 32 }
theorem b48 : PureBody E48 [(1, ([], [[0, 1, 2, 3, 4, 5, 6, 7, 8, 9, 10, 11, 12, 13, 14, 15, 16, 17, 18, 19, 20, 21, 22, 23, 24, 25, 26, 27]]))] Tryz.f48 awyS := by
  refine pb ?_
  rintro ⟨s, p⟩ ⟨hs, hp⟩
  simp only at hs hp
  obtain ⟨p1, p2, p3, p4, p5, p6⟩ := hp
  have hc := crI_b hs.i
  have hl := hs.r1
  obtain ⟨v, hv⟩ : ∃ v : Nat, p.v = (v : Int) := ⟨p.v.toNat, by omega⟩
  have hvl : v < s.x.r1.length := by omega
  have hvt : ((v : Int)).toNat = v := by omega
  obtain ⟨y, hy, hy'⟩ := get_ex hvl
  have gy : r1At s v = y := by simp [r1At, List.getD, hy]
  have hz : awayB s p = (decide (s.f.clr ≤ p.h) && (decide (s.f.safe ≤ v) && decide (0 ≤ y))) := by rw [← gy, ← hv]; rfl
  by_cases h1 : s.f.clr ≤ p.h
  · by_cases h2 : s.f.safe ≤ v
    · simp -dsimp [Tryz.f48, E48, St.row, Po.row]
      repeat' (first | omega | (simp -dsimp [E48, ri, cellp, ints, St.row, Po.row, h1, h2, hz, hv, hvt, hvl, hy, hy']) | (refine Also.intro ?_ fun _ => ?_) | (refine Hold.intro fun _ => ?_) | (refine And.intro ?_ ?_))
    · have h2' : (s.f.safe ≤ v) = False := eq_false h2
      simp -dsimp [Tryz.f48, E48, St.row, Po.row]
      repeat' (first | omega | (simp -dsimp [E48, ri, cellp, ints, St.row, Po.row, h1, h2', hz, hv, hvt, hvl, hy, hy']) | (refine Also.intro ?_ fun _ => ?_) | (refine Hold.intro fun _ => ?_) | (refine And.intro ?_ ?_))
  · have h1' : (s.f.clr ≤ p.h) = False := eq_false h1
    simp -dsimp [Tryz.f48, E48, St.row, Po.row]
    repeat' (first | omega | (simp -dsimp [E48, ri, cellp, ints, St.row, Po.row, h1', hz, hv, hvt, hvl, hy, hy']) | (refine Also.intro ?_ fun _ => ?_) | (refine Hold.intro fun _ => ?_) | (refine And.intro ?_ ?_))
theorem ok48 : FnOK Tryz.prog 48 (.pure awyS) := pure_fn (E := E48) rfl LOK.nil (ok := [(1, ([], [[0, 1, 2, 3, 4, 5, 6, 7, 8, 9, 10, 11, 12, 13, 14, 15, 16, 17, 18, 19, 20, 21, 22, 23, 24, 25, 26, 27]]))]) (fn := Tryz.f48) (by kernel_rfl) (by kernel_rfl) (by kernel_rfl) (by kernel_rfl) rfl (fun _ _ => by simp) b48
end Go.Sx.Rot
end
section
/- Engine: nothing stands in the way of a step. No conditions. -/
set_option linter.unusedSimpArgs false
set_option linter.unusedSectionVars false
set_option maxRecDepth 100000
set_option maxHeartbeats 8000000
namespace Go.Sx.Rot
open Go.Proofs Go.Sx Go.Sx.Tab
attribute [local irreducible] HLe
attribute [local simp] hps_app
@[simp] def clE (d : (Po × Po) × Hi) : List V := [.agg d.2.row, .ip 3 [d.1.1.row] 0 0, .ip 3 [d.1.2.row] 0 0]
theorem clE_inj (a b : (Po × Po) × Hi) (h : clE a = clE b) : a = b := by
  obtain ⟨⟨a1, a2⟩, a3⟩ := a; obtain ⟨⟨b1, b2⟩, b3⟩ := b
  simp only [clE, List.cons.injEq, V.agg.injEq, V.ip.injEq, true_and, and_true] at h
  rw [Hi.row_inj _ _ h.1, Po.row_inj _ _ h.2.1, Po.row_inj _ _ h.2.2]
theorem clE_dec (p q : Po) (x : Hi) : decC clE [.agg [.int .i64 x.a, .int .i64 x.h], .ip 3 [[.int .i64 p.x, .int .i64 p.v, .int .i64 p.h]] 0 0, .ip 3 [[.int .i64 q.x, .int .i64 q.v, .int .i64 q.h]] 0 0] = ((p, q), x) := decC_eq clE_inj ((p, q), x)
def clP (d : Po × Po) (x : Hi) : Bool := withinB x.a d.1.x d.2.x && decide (min d.1.h d.2.h < x.h)
noncomputable abbrev clxS : PSpec := mkP clE (fun _ => True) fun d => .bool (clP d.1 d.2)
noncomputable abbrev E123 : Env := { P := Tryz.prog, fn := tbl [(87, .pure withinS)], own := [], key := 12300, nt := 22 }
theorem b123 : PureBody E123 [] Tryz.f123 clxS := by
  refine pb ?_
  rintro ⟨⟨p, q⟩, x⟩ _
  have hz : clP (p, q) x = (withinB x.a p.x q.x && decide (min p.h q.h < x.h)) := rfl
  cases h1 : withinB x.a p.x q.x
  all_goals
    rw [h1] at hz
    simp -dsimp [Tryz.f123, E123, Hi.row, Po.row]
    repeat' (first | omega | (simp -dsimp [E123, ri, cellp, ints, Hi.row, Po.row, h1, hz]) | (refine Also.intro ?_ fun _ => ?_) | (refine Hold.intro fun _ => ?_) | (refine And.intro ?_ ?_))
theorem ok123 : FnOK Tryz.prog 123 (.pure clxS) := pure_fn (E := E123) rfl (.cons ok87 .nil) (ok := []) (fn := Tryz.f123) (by kernel_rfl) (by kernel_rfl) (by kernel_rfl) (by kernel_rfl) rfl (fun _ _ => by simp) b123
def clV (d : Po × Po) : V := .fn 123 [.ip 3 [[.int .i64 d.1.x, .int .i64 d.1.v, .int .i64 d.1.h]] 0 0, .ip 3 [[.int .i64 d.2.x, .int .i64 d.2.v, .int .i64 d.2.h]] 0 0]
theorem clV_inj (a b : Po × Po) (h : clV a = clV b) : a = b := by
  obtain ⟨⟨a1, a2, a3⟩, ⟨a4, a5, a6⟩⟩ := a; obtain ⟨⟨b1, b2, b3⟩, ⟨b4, b5, b6⟩⟩ := b
  simpa [clV, and_assoc] using h
namespace Cl
@[simp] def clssE (d : (Po×Po) × List Hi) : List V := [.sl 2 (d.2.map Hi.row), clV d.1]
theorem clssE_inj (a b : (Po×Po) × List Hi) (h : clssE a = clssE b) : a = b := by
  obtain ⟨a1, a2⟩ := a; obtain ⟨b1, b2⟩ := b
  simp only [clssE, List.cons.injEq, V.sl.injEq, true_and, and_true] at h
  rw [mapRow_inj Hi.row_inj h.1, clV_inj _ _ h.2]
theorem clssE_dec (q : (Po×Po)) (l : List Hi) : decC clssE [.sl 2 (l.map Hi.row), clV q] = (q, l) := decC_eq clssE_inj (q, l)
structure clssP (d : (Po×Po) × List Hi) : Prop where
  l : d.2.length ≤ 1000000
  q : (fun q : (Po×Po) => True) d.1
noncomputable abbrev clsixS : PSpec := mkP clssE clssP fun d => .int .i64 (idxZ d.2 (clP d.1))
noncomputable abbrev clsanS : PSpec := mkP clssE clssP fun d => .bool (d.2.any (clP d.1))
noncomputable abbrev E122 : Env := { P := Tryz.prog, fn := tbl [(123, .pure clxS)], own := [], key := 12200, nt := 19 }
theorem b122 : PureBody E122 [] Tryz.f122 clsixS := by
  refine pb ?_
  rintro ⟨q, l⟩ ⟨hl, hq⟩
  have hl : l.length ≤ 1000000 := hl
  try dsimp only at hq
  simp -dsimp [Tryz.f122, E122]
  refine awp_loop [9, 10, 5, 11, 12, 13, 14, 15, 16, 17, 4, 18, 8] (fun k : { k : Nat // k ≤ l.length ∧ ∀ j (h : j < l.length), j < k → clP q l[j] = false } => [(8, (true, .int .i64 k.1))]) (fun _ => noH) (fun k => l.length - k.1) ⟨0, by omega, fun _ _ h => by omega⟩ ?_ (HLe.refl _) ?_
  · simp [okAll, okv]
  rintro ⟨k, hk, hall⟩
  by_cases hk1 : k < l.length
  · have hki : (k : Int) < l.length := by omega
    have wk : IntKind.wrap .i64 ((k : Int) + 1) = (k + 1 : Nat) := wrap_id (by omega) (by omega)
    obtain ⟨x, hx⟩ : ∃ x, l[k]? = some x := ⟨_, List.getElem?_eq_getElem hk1⟩
    have hx' : l[k] = x := (List.getElem?_eq_some_iff.1 hx).2
    cases hw : clP q x
    · simp -dsimp [hki]
      repeat' (first | omega | (simp -dsimp [E122, ri, cellp, ints, hki, hk1, hl, hx, hx', hw, wk, hq, clV, clE_dec, Hi.row, Po.row]) | (refine Also.intro ?_ fun _ => ?_) | (refine Hold.intro fun _ => ?_) | (refine And.intro ?_ ?_))
      refine ⟨k + 1, tle_chain rfl ?_, HLe.refl _, ⟨by omega, fun j h hj => ?_⟩, by omega⟩
      · simp [okAll, okv]
      · by_cases hjk : j = k
        · subst hjk; rw [hx']; exact hw
        · exact hall j h (by omega)
    · have hz := idxZ_at l (clP q) hk1 (by rw [hx']; exact hw) hall
      simp -dsimp [hki]
      repeat' (first | omega | (simp -dsimp [E122, ri, cellp, ints, hki, hk1, hl, hx, hx', hw, wk, hz, hq, clV, clE_dec, Hi.row, Po.row]) | (refine Also.intro ?_ fun _ => ?_) | (refine Hold.intro fun _ => ?_) | (refine And.intro ?_ ?_))
  · have hkn : ¬ (k : Int) < l.length := by omega
    have hz := idxZ_none l (clP q) (fun j h => hall j h (by omega))
    simp -dsimp [hkn]
    repeat' (first | omega | (simp -dsimp [E122, ri, cellp, ints, hkn, hz]) | (refine Also.intro ?_ fun _ => ?_) | (refine Hold.intro fun _ => ?_) | (refine And.intro ?_ ?_))
theorem ok122 : FnOK Tryz.prog 122 (.pure clsixS) := pure_fn (E := E122) rfl (.cons ok123 .nil) (ok := []) (fn := Tryz.f122) (by kernel_rfl) (by kernel_rfl) (by kernel_rfl) (by kernel_rfl) rfl (fun _ _ => by simp) b122
noncomputable abbrev E110 : Env := { P := Tryz.prog, fn := tbl [(122, .pure clsixS)], own := [], key := 11000, nt := 9 }
theorem b110 : PureBody E110 [] Tryz.f110 clsanS := by
  refine pb ?_
  rintro ⟨q, l⟩ hP
  have hz := idxZ_any l (clP q)
  have hd := clssE_dec q l
  simp -dsimp only [clV] at hd
  simp -dsimp [Tryz.f110, E110, clV]
  repeat' (first | omega | (simp -dsimp [E110, ri, cellp, ints, hP, hd, hz, clV]) | (refine Also.intro ?_ fun _ => ?_) | (refine Hold.intro fun _ => ?_) | (refine And.intro ?_ ?_))
theorem ok110 : FnOK Tryz.prog 110 (.pure clsanS) := pure_fn (E := E110) rfl (.cons ok122 .nil) (ok := []) (fn := Tryz.f110) (by kernel_rfl) (by kernel_rfl) (by kernel_rfl) (by kernel_rfl) rfl (fun _ _ => by simp) b110
end Cl
@[simp] def sppE (d : St × Po × Po) : List V := [.agg d.1.row, .agg d.2.1.row, .agg d.2.2.row]
theorem sppE_inj (a b : St × Po × Po) (h : sppE a = sppE b) : a = b := by
  obtain ⟨a1, a2, a3⟩ := a; obtain ⟨b1, b2, b3⟩ := b
  simp only [sppE, List.cons.injEq, V.agg.injEq, true_and, and_true] at h
  rw [St.row_inj _ _ h.1, Po.row_inj _ _ h.2.1, Po.row_inj _ _ h.2.2]
def clrB (s : St) (p q : Po) : Bool := !s.f.hs.any (clP (p, q))
noncomputable abbrev clrS : PSpec := mkP sppE (fun d => d.1.f.hs.length ≤ 1000000) fun d => .bool (clrB d.1 d.2.1 d.2.2)
noncomputable abbrev E113 : Env := { P := Tryz.prog, fn := tbl [(110, .pure Cl.clsanS)], own := [], key := 11300, nt := 13, frz := [(1, [4, 50004, 5, 50005])] }
theorem b113 : PureBody E113 [] Tryz.f113 clrS := by
  refine pb ?_
  rintro ⟨s, p, q⟩ hl
  have hl : s.f.hs.length ≤ 1000000 := hl
  have d1 := Cl.clssE_dec (p, q) s.f.hs
  simp only [clV] at d1
  have hz : clrB s p q = !s.f.hs.any (clP (p, q)) := rfl
  have hP : Cl.clssP ((p, q), s.f.hs) := ⟨hl, trivial⟩
  simp -dsimp [Tryz.f113, E113, St.row, Po.row]
  repeat' (first | omega | (simp -dsimp [E113, ri, cellp, ints, St.row, Po.row, d1, hl, hP, hz, clV]) | (refine Also.intro ?_ fun _ => ?_) | (refine Hold.intro fun _ => ?_) | (refine And.intro ?_ ?_))
theorem ok113 : FnOK Tryz.prog 113 (.pure clrS) := pure_fn (E := E113) rfl (.cons Cl.ok110 .nil) (ok := []) (fn := Tryz.f113) (by kernel_rfl) (by kernel_rfl) (by kernel_rfl) (by kernel_rfl) rfl (fun _ _ => by simp) b113
end Go.Sx.Rot
end
