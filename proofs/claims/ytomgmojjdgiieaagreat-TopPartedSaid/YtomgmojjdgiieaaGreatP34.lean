/- Engine: crafts and fields, their errors, of the program and of the reference. No conditions. -/
import Derived.Test.YtomgmojjdgiieaaGreatP33
import Derived.Test.YtomgmojjdgiieaaGreatP31
set_option linter.unusedSimpArgs false
set_option linter.unusedVariables false
set_option linter.unusedSectionVars false
set_option linter.unusedSimpArgs false
set_option linter.unusedSectionVars false
set_option maxRecDepth 100000
set_option maxHeartbeats 16000000
namespace Go.Sx.Rot
open Go.Proofs Go.Sx Go.Sx.Tab
attribute [local irreducible] HLe
attribute [local simp] hps_app
structure Cr where
  r : Ro
  one : Int
  unit : Int
  step : Int
  top : Int
  drop : Int
  touch : Int
  sink : Int
  deriving Inhabited
def Cr.row (c : Cr) : List V := c.r.row ++ [.int .i64 c.one, .int .i64 c.unit, .int .i64 c.step, .int .i64 c.top, .int .i64 c.drop, .int .i64 c.touch, .int .i64 c.sink]
@[simp] theorem cr_len (c : Cr) : c.row.length = 33 := rfl
@[simp] theorem cr_take (c : Cr) : c.row.take 33 = c.row := rfl
@[simp] theorem cr_r (c : Cr) : c.row.take 26 = c.r.row := rfl
@[simp] theorem cr_26 (c : Cr) : c.row[26]? = some (.int .i64 c.one) := rfl
@[simp] theorem cr_27 (c : Cr) : c.row[27]? = some (.int .i64 c.unit) := rfl
@[simp] theorem cr_28 (c : Cr) : c.row[28]? = some (.int .i64 c.step) := rfl
@[simp] theorem cr_29 (c : Cr) : c.row[29]? = some (.int .i64 c.top) := rfl
@[simp] theorem cr_30 (c : Cr) : c.row[30]? = some (.int .i64 c.drop) := rfl
@[simp] theorem cr_31 (c : Cr) : c.row[31]? = some (.int .i64 c.touch) := rfl
@[simp] theorem cr_32 (c : Cr) : c.row[32]? = some (.int .i64 c.sink) := rfl
@[simp] theorem cr_24 (c : Cr) : c.row[24]? = some (.int .i64 c.r.climb) := rfl
@[simp] theorem cr_lx (c : Cr) : c.row[6]? = some (ints c.r.l.xs) := rfl
@[simp] theorem cr_ly (c : Cr) : c.row[7]? = some (ints c.r.l.ys) := rfl
@[simp] theorem cr_px (c : Cr) : c.row[9]? = some (ints c.r.p.xs) := rfl
@[simp] theorem cr_py (c : Cr) : c.row[10]? = some (ints c.r.p.ys) := rfl
@[simp] theorem cr_rx (c : Cr) : c.row[15]? = some (ints c.r.rl.xs) := rfl
@[simp] theorem cr_ry (c : Cr) : c.row[16]? = some (ints c.r.rl.ys) := rfl
@[simp] theorem cr_leaf (c : Cr) : c.row.all V.leaf = true := rfl
@[simp] theorem cr_cell (c : Cr) : c.row.all V.cell1 = true := rfl
@[simp] theorem cr_free (c : Cr) : c.row.all V.refFree = true := rfl
@[simp] theorem cr_free1 (c : Cr) : c.row.all V.refFree1 = true := rfl
@[simp] theorem cr_lend (h : Hp) (c : Cr) : lends1 h c.row = (True, c.row) := by simp [Cr.row, Ro.row, tabR, ints, lends1, lend1, lendN]
@[simp] theorem cr_subs (c : Cr) : subs0 c.row c.row = True := eq_true (subs0_refl _)
theorem Cr.row_inj (a b : Cr) (h : a.row = b.row) : a = b := by
  obtain ⟨a0, a1, a2, a3, a4, a5, a6, a7⟩ := a; obtain ⟨b0, b1, b2, b3, b4, b5, b6, b7⟩ := b
  have h1 := List.append_inj h rfl
  have h2 := h1.2
  simp only [List.cons.injEq, V.int.injEq, true_and, and_true] at h2
  obtain ⟨rfl, rfl, rfl, rfl, rfl, rfl, rfl⟩ := h2
  rw [show a0 = b0 from Ro.row_inj _ _ h1.1]
@[simp] def crE (c : Cr) : List V := [.agg c.row]
theorem crE_inj (a b : Cr) (h : crE a = crE b) : a = b := Cr.row_inj _ _ (by simpa using h)
theorem crE_dec (c : Cr) : decC crE [.agg c.row] = c := decC_eq crE_inj c
def onB (l : List Int) (n : Int) : Bool := lieB l ⟨n, n⟩
@[simp] def onE (d : List Int × Int) : List V := [ints d.1, .int .i64 d.2]
theorem onE_inj (a b : List Int × Int) (h : onE a = onE b) : a = b := by
  obtain ⟨a1, a2⟩ := a; obtain ⟨b1, b2⟩ := b
  simp only [onE, List.cons.injEq, V.int.injEq, true_and, and_true] at h
  rw [ints_inj _ _ h.1, h.2]
theorem onE_dec (l : List Int) (n : Int) : decC onE [.sl 1 (l.map ri), .int .i64 n] = (l, n) := decC_eq onE_inj (l, n)
noncomputable abbrev onS : PSpec := mkP onE (fun d => 0 < d.1.length ∧ d.1.length ≤ 1000000) fun d => .bool (onB d.1 d.2)
noncomputable abbrev E87 : Env := { P := Tryz.prog, fn := tbl [], own := [], key := 8700, nt := 15 }
theorem b87 : PureBody E87 [] Tryz.f87 withinS := by
  refine pb ?_
  rintro ⟨n, a, b⟩ _
  simp -dsimp [Tryz.f87, E87, withinB]
  repeat' (first | omega | (simp -dsimp [E87, ri, cellp, ints, *]) | (refine Also.intro ?_ fun _ => ?_) | (refine Hold.intro fun _ => ?_) | (refine And.intro ?_ ?_))
theorem ok87 : FnOK Tryz.prog 87 (.pure withinS) := pure_fn (E := E87) rfl LOK.nil (ok := []) (fn := Tryz.f87) (by kernel_rfl) (by kernel_rfl) (by kernel_rfl) (by kernel_rfl) rfl (fun _ _ => by simp) b87
noncomputable abbrev E88 : Env := { P := Tryz.prog, fn := tbl [], own := [], key := 8800, nt := 20 }
theorem b88 : PureBody E88 [] Tryz.f88 onS := by
  refine pb ?_
  rintro ⟨l, n⟩ ⟨h0, hl⟩
  simp only at h0 hl
  obtain ⟨x, hx, hx'⟩ := get_ex h0
  have hm : l.length - 1 < l.length := by omega
  obtain ⟨y, hy, hy'⟩ := get_ex hm
  have gx : l.getD 0 0 = x := by simp [List.getD, hx]
  have gy : l.getD (l.length - 1) 0 = y := by simp [List.getD, hy]
  have wl : IntKind.wrap .i64 ((l.length : Int) - 1) = (l.length - 1 : Nat) := by rw [wrap_id (by omega) (by omega)]; omega
  have hz : onB l n = (decide (x ≤ n) && decide (n ≤ y)) := by rw [onB, lieB, gx, gy]
  by_cases h1 : x ≤ n
  all_goals
    simp -dsimp [Tryz.f88, E88]
    repeat' (first | omega | (simp -dsimp [E88, ri, cellp, ints, h0, hl, hx, hx', hm, hy, hy', wl, hz, h1]) | (refine Also.intro ?_ fun _ => ?_) | (refine Hold.intro fun _ => ?_) | (refine And.intro ?_ ?_))
theorem ok88 : FnOK Tryz.prog 88 (.pure onS) := pure_fn (E := E88) rfl LOK.nil (ok := []) (fn := Tryz.f88) (by kernel_rfl) (by kernel_rfl) (by kernel_rfl) (by kernel_rfl) rfl (fun _ _ => by simp) b88
structure LiP (d : List Int × Sp) : Prop where
  a : 0 < d.1.length
  b : d.1.length ≤ 1000000
  c : d.2.lo ≤ d.2.hi
noncomputable abbrev liS : PSpec := mkP lsE LiP fun d => .bool (lieB d.1 d.2)
noncomputable abbrev E57 : Env := { P := Tryz.prog, fn := tbl [(88, .pure onS)], own := [], key := 5700, nt := 15 }
theorem b57 : PureBody E57 [] Tryz.f57 liS := by
  refine pb ?_
  rintro ⟨l, s⟩ ⟨h0, hl, hs⟩
  simp only at h0 hl hs
  have d1 := onE_dec l s.lo
  have d2 := onE_dec l s.hi
  have hz : lieB l s = (onB l s.lo && onB l s.hi) := by
    simp only [onB, lieB]
    generalize l.getD 0 0 = x
    generalize l.getD (l.length - 1) 0 = y
    by_cases h1 : x ≤ s.lo
    · by_cases h2 : s.hi ≤ y
      · simp [h1, h2, show s.lo ≤ y by omega, show x ≤ s.hi by omega]
      · simp [h1, h2]
    · simp [h1]
  cases h1 : onB l s.lo
  all_goals
    rw [h1] at hz
    simp -dsimp [Tryz.f57, E57, Sp.row]
    repeat' (first | omega | (simp -dsimp [E57, ri, cellp, ints, Sp.row, d1, d2, h0, hl, hz, h1]) | (refine Also.intro ?_ fun _ => ?_) | (refine Hold.intro fun _ => ?_) | (refine And.intro ?_ ?_))
theorem ok57 : FnOK Tryz.prog 57 (.pure liS) := pure_fn (E := E57) rfl (.cons ok88 .nil) (ok := []) (fn := Tryz.f57) (by kernel_rfl) (by kernel_rfl) (by kernel_rfl) (by kernel_rfl) rfl (fun _ _ => by simp) b57
def crI (c : Cr) : Bool := withinB c.one 0 100 && (withinB c.unit 1 1000 && (withinB c.step 1 1000 && (withinB c.top 1 6 && (withinB c.drop 1 3 && (withinB c.touch 0 c.top && withinB c.sink 1 c.drop)))))
def ccE (c : Cr) : Int := if rotB c.r = true then (if crI c = true then (if (lieB c.r.l.xs ⟨0, c.top * c.unit⟩ && lieB c.r.rl.xs ⟨0, 0⟩) = true then 0 else 30) else 30) else 20
noncomputable abbrev ccS : PSpec := mkP crE (fun c => RoP c.r) fun c => .int .i64 (ccE c)
theorem crI_b {c : Cr} (h : crI c = true) : (0 ≤ c.one ∧ c.one ≤ 100) ∧ (1 ≤ c.unit ∧ c.unit ≤ 1000) ∧ (1 ≤ c.step ∧ c.step ≤ 1000) ∧ (1 ≤ c.top ∧ c.top ≤ 6) ∧ (1 ≤ c.drop ∧ c.drop ≤ 3) ∧ (0 ≤ c.touch ∧ c.touch ≤ c.top) ∧ (1 ≤ c.sink ∧ c.sink ≤ c.drop) := by
  simpa only [crI, withinB, Bool.and_eq_true, decide_eq_true_eq] using h
theorem ro_lens {r : Ro} (h : rotB r = true) : ∀ x ∈ limL r, 2 ≤ x.t.xs.length ∧ x.t.xs.length ≤ 12 ∧ 2 ≤ x.t.ys.length ∧ x.t.ys.length ≤ 12 := fun x hx => by
  simp only [rotB, Bool.and_eq_true, List.all_eq_true] at h
  have := h.1 x hx
  simp only [limB, tbB, Bool.and_eq_true] at this
  have a := axB_len this.1.1
  have b := axB_len this.1.2.1
  omega
theorem tu_b {c : Cr} (h : crI c = true) : 1 ≤ c.top * c.unit ∧ c.top * c.unit ≤ 6000 := by
  obtain ⟨_, h2, _, h4, _⟩ := crI_b h
  exact ⟨by have := Int.mul_le_mul h4.1 h2.1 (by omega) (by omega); omega, by have := Int.mul_le_mul h4.2 h2.2 (by omega) (by omega); omega⟩
theorem on_two {l : List Int} {n : Int} (h : 0 ≤ n) : lieB l ⟨0, n⟩ = (onB l 0 && onB l n) := by
  simp only [onB, lieB]
  generalize l.getD 0 0 = x
  generalize l.getD (l.length - 1) 0 = y
  by_cases h1 : x ≤ 0
  · by_cases h2 : n ≤ y
    · simp [h1, h2, show (0 : Int) ≤ y by omega, show x ≤ n by omega]
    · simp [h1, h2]
  · simp [h1]
noncomputable abbrev E56 : Env := { P := Tryz.prog, fn := tbl [(49, .pure rotS), (87, .pure withinS), (88, .pure onS)], own := [], key := 5600, nt := 80 }
theorem b56 : PureBody E56 [(7, ([], [[0, 1, 2, 3, 4, 5, 6, 7, 8, 9, 10, 11, 12, 13, 14, 15, 16, 17, 18, 19, 20]]))] Tryz.f56 ccS := by
  refine pb ?_
  rintro c hP
  have hP : RoP c.r := hP
  have dr := roE_dec c.r
  have hE : rotE c.r = if rotB c.r = true then 0 else 20 := rfl
  cases h1 : rotB c.r
  case false =>
    have hz : ccE c = 20 := by simp [ccE, h1]
    rw [h1] at hE
    simp -dsimp at hE
    simp -dsimp [Tryz.f56, E56]
    repeat' (first | omega | (simp -dsimp [E56, ri, cellp, ints, dr, hP, hE, h1, hz]) | (refine Also.intro ?_ fun _ => ?_) | (refine Hold.intro fun _ => ?_) | (refine And.intro ?_ ?_))
  rw [h1] at hE
  simp -dsimp at hE
  cases g0 : withinB c.one 0 100
  case false =>
    have hI : crI c = false := by simp [crI, g0]
    have hz : ccE c = 30 := by simp [ccE, h1, hI]
    simp -dsimp [Tryz.f56, E56]
    repeat' (first | omega | (simp -dsimp [E56, ri, cellp, ints, dr, hP, hE, h1, hz, g0]) | (refine Also.intro ?_ fun _ => ?_) | (refine Hold.intro fun _ => ?_) | (refine And.intro ?_ ?_))
  cases g1 : withinB c.unit 1 1000
  case false =>
    have hI : crI c = false := by simp [crI, g0, g1]
    have hz : ccE c = 30 := by simp [ccE, h1, hI]
    simp -dsimp [Tryz.f56, E56]
    repeat' (first | omega | (simp -dsimp [E56, ri, cellp, ints, dr, hP, hE, h1, hz, g0, g1]) | (refine Also.intro ?_ fun _ => ?_) | (refine Hold.intro fun _ => ?_) | (refine And.intro ?_ ?_))
  cases g2 : withinB c.step 1 1000
  case false =>
    have hI : crI c = false := by simp [crI, g0, g1, g2]
    have hz : ccE c = 30 := by simp [ccE, h1, hI]
    simp -dsimp [Tryz.f56, E56]
    repeat' (first | omega | (simp -dsimp [E56, ri, cellp, ints, dr, hP, hE, h1, hz, g0, g1, g2]) | (refine Also.intro ?_ fun _ => ?_) | (refine Hold.intro fun _ => ?_) | (refine And.intro ?_ ?_))
  cases g3 : withinB c.top 1 6
  case false =>
    have hI : crI c = false := by simp [crI, g0, g1, g2, g3]
    have hz : ccE c = 30 := by simp [ccE, h1, hI]
    simp -dsimp [Tryz.f56, E56]
    repeat' (first | omega | (simp -dsimp [E56, ri, cellp, ints, dr, hP, hE, h1, hz, g0, g1, g2, g3]) | (refine Also.intro ?_ fun _ => ?_) | (refine Hold.intro fun _ => ?_) | (refine And.intro ?_ ?_))
  cases g4 : withinB c.drop 1 3
  case false =>
    have hI : crI c = false := by simp [crI, g0, g1, g2, g3, g4]
    have hz : ccE c = 30 := by simp [ccE, h1, hI]
    simp -dsimp [Tryz.f56, E56]
    repeat' (first | omega | (simp -dsimp [E56, ri, cellp, ints, dr, hP, hE, h1, hz, g0, g1, g2, g3, g4]) | (refine Also.intro ?_ fun _ => ?_) | (refine Hold.intro fun _ => ?_) | (refine And.intro ?_ ?_))
  cases g5 : withinB c.touch 0 c.top
  case false =>
    have hI : crI c = false := by simp [crI, g0, g1, g2, g3, g4, g5]
    have hz : ccE c = 30 := by simp [ccE, h1, hI]
    simp -dsimp [Tryz.f56, E56]
    repeat' (first | omega | (simp -dsimp [E56, ri, cellp, ints, dr, hP, hE, h1, hz, g0, g1, g2, g3, g4, g5]) | (refine Also.intro ?_ fun _ => ?_) | (refine Hold.intro fun _ => ?_) | (refine And.intro ?_ ?_))
  cases g6 : withinB c.sink 1 c.drop
  case false =>
    have hI : crI c = false := by simp [crI, g0, g1, g2, g3, g4, g5, g6]
    have hz : ccE c = 30 := by simp [ccE, h1, hI]
    simp -dsimp [Tryz.f56, E56]
    repeat' (first | omega | (simp -dsimp [E56, ri, cellp, ints, dr, hP, hE, h1, hz, g0, g1, g2, g3, g4, g5, g6]) | (refine Also.intro ?_ fun _ => ?_) | (refine Hold.intro fun _ => ?_) | (refine And.intro ?_ ?_))
  have hI : crI c = true := by simp [crI, g0, g1, g2, g3, g4, g5, g6]
  have hb := crI_b hI
  have ht := tu_b hI
  have wt : IntKind.wrap .i64 (c.top * c.unit) = c.top * c.unit := wrap_id (by omega) (by omega)
  have l1 := ro_lens h1 ⟨c.r.l, 0, 100000⟩ (by simp [limL])
  have l2 := ro_lens h1 ⟨c.r.rl, 0, 10000⟩ (by simp [limL])
  simp only at l1 l2
  have p1 : 0 < c.r.l.xs.length ∧ c.r.l.xs.length ≤ 1000000 := by omega
  have p2 : 0 < c.r.rl.xs.length ∧ c.r.rl.xs.length ≤ 1000000 := by omega
  have hz : ccE c = if (lieB c.r.l.xs ⟨0, c.top * c.unit⟩ && lieB c.r.rl.xs ⟨0, 0⟩) = true then 0 else 30 := by simp [ccE, h1, hI]
  rw [on_two (by omega), show lieB c.r.rl.xs ⟨0, 0⟩ = onB c.r.rl.xs 0 from rfl] at hz
  have d1 := onE_dec c.r.l.xs 0
  have d2 := onE_dec c.r.l.xs (c.top * c.unit)
  have d3 := onE_dec c.r.rl.xs 0
  generalize hT : c.top * c.unit = T at *
  cases q1 : onB c.r.l.xs 0
  case false =>
    rw [q1] at hz
    simp -dsimp at hz
    simp -dsimp [Tryz.f56, E56]
    repeat' (first | omega | (simp -dsimp [E56, ri, cellp, ints, dr, hP, hE, h1, hz, g0, g1, g2, g3, g4, g5, g6, hT, wt, p1, p2, d1, d2, d3, q1]) | (refine Also.intro ?_ fun _ => ?_) | (refine Hold.intro fun _ => ?_) | (refine And.intro ?_ ?_))
  cases q2 : onB c.r.l.xs T
  case false =>
    rw [q1, q2] at hz
    simp -dsimp at hz
    simp -dsimp [Tryz.f56, E56]
    repeat' (first | omega | (simp -dsimp [E56, ri, cellp, ints, dr, hP, hE, h1, hz, g0, g1, g2, g3, g4, g5, g6, hT, wt, p1, p2, d1, d2, d3, q1, q2]) | (refine Also.intro ?_ fun _ => ?_) | (refine Hold.intro fun _ => ?_) | (refine And.intro ?_ ?_))
  cases q3 : onB c.r.rl.xs 0
  all_goals
    rw [q1, q2, q3] at hz
    simp -dsimp at hz
    simp -dsimp [Tryz.f56, E56]
    repeat' (first | omega | (simp -dsimp [E56, ri, cellp, ints, dr, hP, hE, h1, hz, g0, g1, g2, g3, g4, g5, g6, hT, wt, p1, p2, d1, d2, d3, q1, q2, q3]) | (refine Also.intro ?_ fun _ => ?_) | (refine Hold.intro fun _ => ?_) | (refine And.intro ?_ ?_))
theorem ok56 : FnOK Tryz.prog 56 (.pure ccS) := pure_fn (E := E56) rfl (.cons ok49 (.cons ok87 (.cons ok88 .nil))) (ok := [(7, ([], [[0, 1, 2, 3, 4, 5, 6, 7, 8, 9, 10, 11, 12, 13, 14, 15, 16, 17, 18, 19, 20]]))]) (fn := Tryz.f56) (by kernel_rfl) (by kernel_rfl) (by kernel_rfl) (by kernel_rfl) rfl (fun _ _ => by simp) b56
structure Hi where
  a : Int
  h : Int
  deriving Inhabited
def Hi.row (x : Hi) : List V := [.int .i64 x.a, .int .i64 x.h]
theorem Hi.row_inj (a b : Hi) (h : a.row = b.row) : a = b := by
  obtain ⟨a1, a2⟩ := a; obtain ⟨b1, b2⟩ := b
  simp only [Hi.row, List.cons.injEq, V.int.injEq, true_and, and_true] at h
  rw [h.1, h.2]
structure Fl where
  len : Int
  clr : Int
  safe : Int
  hs : List Hi
  deriving Inhabited
def Fl.row (f : Fl) : List V := [.int .i64 f.len, .int .i64 f.clr, .int .i64 f.safe, .sl 2 (f.hs.map Hi.row)]
theorem Fl.row_inj (a b : Fl) (h : a.row = b.row) : a = b := by
  obtain ⟨a1, a2, a3, a4⟩ := a; obtain ⟨b1, b2, b3, b4⟩ := b
  simp only [Fl.row, List.cons.injEq, V.int.injEq, V.sl.injEq, true_and, and_true] at h
  rw [h.1, h.2.1, h.2.2.1, mapRow_inj Hi.row_inj h.2.2.2]
@[simp] def flE (f : Fl) : List V := [.agg f.row]
theorem flE_inj (a b : Fl) (h : flE a = flE b) : a = b := Fl.row_inj _ _ (by simpa using h)
theorem flE_dec (f : Fl) : decC flE [.agg [.int .i64 f.len, .int .i64 f.clr, .int .i64 f.safe, .sl 2 (f.hs.map Hi.row)]] = f := decC_eq flE_inj f
@[simp] def hiE (x : Hi) : List V := [.agg x.row]
theorem hiE_inj (a b : Hi) (h : hiE a = hiE b) : a = b := Hi.row_inj _ _ (by simpa using h)
theorem hiE_dec (x : Hi) : decC hiE [.agg [.int .i64 x.a, .int .i64 x.h]] = x := decC_eq hiE_inj x
def hiN (x : Hi) : Bool := !withinB x.a (-40) 40 || !withinB x.h 1 12
noncomputable abbrev hiS : PSpec := mkP hiE (fun _ => True) fun x => .bool (hiN x)
noncomputable abbrev E111 : Env := { P := Tryz.prog, fn := tbl [(87, .pure withinS)], own := [], key := 11100, nt := 13 }
theorem b111 : PureBody E111 [] Tryz.f111 hiS := by
  refine pb ?_
  rintro x _
  have hz : hiN x = (!withinB x.a (-40) 40 || !withinB x.h 1 12) := rfl
  cases h1 : withinB x.a (-40) 40
  all_goals
    rw [h1] at hz
    simp -dsimp [Tryz.f111, E111, Hi.row]
    repeat' (first | omega | (simp -dsimp [E111, ri, cellp, ints, Hi.row, h1, hz]) | (refine Also.intro ?_ fun _ => ?_) | (refine Hold.intro fun _ => ?_) | (refine And.intro ?_ ?_))
theorem ok111 : FnOK Tryz.prog 111 (.pure hiS) := pure_fn (E := E111) rfl (.cons ok87 .nil) (ok := []) (fn := Tryz.f111) (by kernel_rfl) (by kernel_rfl) (by kernel_rfl) (by kernel_rfl) rfl (fun _ _ => by simp) b111
@[simp] def fhisE (d : List Hi) : List V := [.sl 2 (d.map Hi.row), .fn 111 []]
theorem fhisE_inj (a b : List Hi) (h : fhisE a = fhisE b) : a = b := by
  simp only [fhisE, List.cons.injEq, V.sl.injEq, true_and, and_true] at h
  exact mapRow_inj Hi.row_inj h
theorem fhisE_dec (l : List Hi) : decC fhisE [.sl 2 (l.map Hi.row), .fn 111 []] = l := decC_eq fhisE_inj l
noncomputable abbrev fhiixS : PSpec := mkP fhisE (fun d => d.length ≤ 1000000) fun d => .int .i64 (idxZ d hiN)
noncomputable abbrev fhianS : PSpec := mkP fhisE (fun d => d.length ≤ 1000000) fun d => .bool (d.any hiN)
noncomputable abbrev E122 : Env := { P := Tryz.prog, fn := tbl [(111, .pure hiS)], own := [], key := 12200, nt := 19 }
theorem b122 : PureBody E122 [] Tryz.f122 fhiixS := by
  refine pb ?_
  rintro l hl
  have hl : l.length ≤ 1000000 := hl
  simp -dsimp [Tryz.f122, E122]
  refine awp_loop [9, 10, 5, 11, 12, 13, 14, 15, 16, 17, 4, 18, 8] (fun k : { k : Nat // k ≤ l.length ∧ ∀ j (h : j < l.length), j < k → hiN l[j] = false } => [(8, (true, .int .i64 k.1))]) (fun _ => noH) (fun k => l.length - k.1) ⟨0, by omega, fun _ _ h => by omega⟩ ?_ (HLe.refl _) ?_
  · simp [okAll, okv]
  rintro ⟨k, hk, hall⟩
  by_cases hk1 : k < l.length
  · have hki : (k : Int) < l.length := by omega
    have wk : IntKind.wrap .i64 ((k : Int) + 1) = (k + 1 : Nat) := wrap_id (by omega) (by omega)
    cases hw : hiN l[k]
    · simp -dsimp [hki]
      repeat' (first | omega | (simp -dsimp [E122, ri, cellp, ints, hki, hk1, hl, hw, wk, hiE_dec, Hi.row]) | (refine Also.intro ?_ fun _ => ?_) | (refine Hold.intro fun _ => ?_) | (refine And.intro ?_ ?_))
      refine ⟨k + 1, tle_chain rfl ?_, HLe.refl _, ⟨by omega, fun j h hj => ?_⟩, by omega⟩
      · simp [okAll, okv]
      · by_cases hjk : j = k
        · subst hjk; exact hw
        · exact hall j h (by omega)
    · have hz := idxZ_at l hiN hk1 hw hall
      simp -dsimp [hki]
      repeat' (first | omega | (simp -dsimp [E122, ri, cellp, ints, hki, hk1, hl, hw, wk, hz, hiE_dec, Hi.row]) | (refine Also.intro ?_ fun _ => ?_) | (refine Hold.intro fun _ => ?_) | (refine And.intro ?_ ?_))
  · have hkn : ¬ (k : Int) < l.length := by omega
    have hz := idxZ_none l hiN (fun j h => hall j h (by omega))
    simp -dsimp [hkn]
    repeat' (first | omega | (simp -dsimp [E122, ri, cellp, ints, hkn, hz]) | (refine Also.intro ?_ fun _ => ?_) | (refine Hold.intro fun _ => ?_) | (refine And.intro ?_ ?_))
theorem ok122 : FnOK Tryz.prog 122 (.pure fhiixS) := pure_fn (E := E122) rfl (.cons ok111 .nil) (ok := []) (fn := Tryz.f122) (by kernel_rfl) (by kernel_rfl) (by kernel_rfl) (by kernel_rfl) rfl (fun _ _ => by simp) b122
noncomputable abbrev E110 : Env := { P := Tryz.prog, fn := tbl [(122, .pure fhiixS)], own := [], key := 11000, nt := 9 }
theorem b110 : PureBody E110 [] Tryz.f110 fhianS := by
  refine pb ?_
  rintro l hl
  have hl : l.length ≤ 1000000 := hl
  have hz := idxZ_any l hiN
  simp -dsimp [Tryz.f110, E110]
  repeat' (first | omega | (simp -dsimp [E110, ri, cellp, ints, hl, fhisE_dec, hz]) | (refine Also.intro ?_ fun _ => ?_) | (refine Hold.intro fun _ => ?_) | (refine And.intro ?_ ?_))
theorem ok110 : FnOK Tryz.prog 110 (.pure fhianS) := pure_fn (E := E110) rfl (.cons ok122 .nil) (ok := []) (fn := Tryz.f110) (by kernel_rfl) (by kernel_rfl) (by kernel_rfl) (by kernel_rfl) rfl (fun _ _ => by simp) b110
def fdB (f : Fl) : Bool := withinB f.len 0 40 && (withinB f.clr 1 12 && (withinB f.safe 0 6 && (decide (f.hs.length ≤ 6) && !f.hs.any hiN)))
def fdE (f : Fl) : Int := if fdB f = true then 0 else 31
noncomputable abbrev fdS : PSpec := mkP flE (fun _ => True) fun f => .int .i64 (fdE f)
theorem fdB_b {f : Fl} (h : fdB f = true) : (0 ≤ f.len ∧ f.len ≤ 40) ∧ (1 ≤ f.clr ∧ f.clr ≤ 12) ∧ (0 ≤ f.safe ∧ f.safe ≤ 6) ∧ f.hs.length ≤ 6 ∧ f.hs.any hiN = false := by
  simpa only [fdB, withinB, Bool.and_eq_true, decide_eq_true_eq, Bool.not_eq_true'] using h
noncomputable abbrev E75 : Env := { P := Tryz.prog, fn := tbl [(87, .pure withinS), (110, .pure fhianS)], own := [], key := 7500, nt := 30 }
theorem b75 : PureBody E75 [] Tryz.f75 fdS := by
  refine pb ?_
  rintro f _
  have hd := fhisE_dec f.hs
  cases g0 : withinB f.len 0 40
  case false =>
    have hz : fdE f = 31 := by simp [fdE, fdB, g0]
    simp -dsimp [Tryz.f75, E75, Fl.row]
    repeat' (first | omega | (simp -dsimp [E75, ri, cellp, ints, Fl.row, g0, hz]) | (refine Also.intro ?_ fun _ => ?_) | (refine Hold.intro fun _ => ?_) | (refine And.intro ?_ ?_))
  cases g1 : withinB f.clr 1 12
  case false =>
    have hz : fdE f = 31 := by simp [fdE, fdB, g0, g1]
    simp -dsimp [Tryz.f75, E75, Fl.row]
    repeat' (first | omega | (simp -dsimp [E75, ri, cellp, ints, Fl.row, g0, g1, hz]) | (refine Also.intro ?_ fun _ => ?_) | (refine Hold.intro fun _ => ?_) | (refine And.intro ?_ ?_))
  cases g2 : withinB f.safe 0 6
  case false =>
    have hz : fdE f = 31 := by simp [fdE, fdB, g0, g1, g2]
    simp -dsimp [Tryz.f75, E75, Fl.row]
    repeat' (first | omega | (simp -dsimp [E75, ri, cellp, ints, Fl.row, g0, g1, g2, hz]) | (refine Also.intro ?_ fun _ => ?_) | (refine Hold.intro fun _ => ?_) | (refine And.intro ?_ ?_))
  by_cases g3 : f.hs.length ≤ 6
  case neg =>
    have g3' : ((6 : Int) < f.hs.length) = True := eq_true (by omega)
    have hz : fdE f = 31 := by simp [fdE, fdB, g0, g1, g2, g3]
    simp -dsimp [Tryz.f75, E75, Fl.row]
    repeat' (first | omega | (simp -dsimp [E75, ri, cellp, ints, Fl.row, g0, g1, g2, g3', hz]) | (refine Also.intro ?_ fun _ => ?_) | (refine Hold.intro fun _ => ?_) | (refine And.intro ?_ ?_))
  have g3' : ((6 : Int) < f.hs.length) = False := eq_false (by omega)
  have g4 : f.hs.length ≤ 1000000 := by omega
  have hz : fdE f = if f.hs.any hiN = true then 31 else 0 := by
    simp only [fdE, fdB, g0, g1, g2, decide_eq_true g3, Bool.true_and]
    cases f.hs.any hiN <;> rfl
  cases g5 : f.hs.any hiN
  all_goals
    rw [g5] at hz
    simp -dsimp at hz
    simp -dsimp [Tryz.f75, E75, Fl.row]
    repeat' (first | omega | (simp -dsimp [E75, ri, cellp, ints, Fl.row, g0, g1, g2, g3', g4, hd, g5, hz]) | (refine Also.intro ?_ fun _ => ?_) | (refine Hold.intro fun _ => ?_) | (refine And.intro ?_ ?_))
theorem ok75 : FnOK Tryz.prog 75 (.pure fdS) := pure_fn (E := E75) rfl (.cons ok87 (.cons ok110 .nil)) (ok := []) (fn := Tryz.f75) (by kernel_rfl) (by kernel_rfl) (by kernel_rfl) (by kernel_rfl) rfl (fun _ _ => by simp) b75
end Go.Sx.Rot
