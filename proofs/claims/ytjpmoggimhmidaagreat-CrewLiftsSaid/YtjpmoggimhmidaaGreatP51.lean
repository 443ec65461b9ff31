/- A part of a proof; no conditions. -/
import Derived.Test.YtjpmoggimhmidaaGreatP50
import Derived.Test.YtjpmoggimhmidaaGreatP47
import Derived.Test.YtjpmoggimhmidaaGreatP38
import Derived.Test.YtjpmoggimhmidaaGreatP41
set_option linter.unusedSimpArgs false
set_option linter.unusedVariables false
set_option linter.unusedSectionVars false
section
/- Crew: Sit. No conditions. -/
set_option linter.unusedSimpArgs false
set_option linter.unusedSectionVars false
set_option maxRecDepth 100000
set_option maxHeartbeats 2000000
namespace Go.Sx
open Go.Proofs
attribute [local irreducible] HLe

def sitO (c : Ca) (l : List Gu) (f : Sp) : Option (List Int) := sitF c l f l.length []
def sitE (c : Ca) (l : List Gu) (f : Sp) : List Int × Int := if lodE c l f = 0 then (match sitO c l f with | some s => (s, 0) | none => ([], 3)) else ([], lodE c l f)
noncomputable abbrev SitS : PSpec := mkP lodE3 LoP fun d => .tup [ints (sitE d.1 d.2.1 d.2.2).1, .int .i64 (sitE d.1 d.2.1 d.2.2).2]
noncomputable abbrev E19 : Env := { P := Tryz.prog, fn := tbl [(24, .pure lodS), (33, .heap (sitS 9))], own := [], key := 1900, nt := 23 }
theorem b19 : PureBody E19 [] Tryz.f19 SitS := by
  refine pb ?_
  rintro ⟨c, l, f⟩ hP
  have hP : LoP (c, l, f) := hP
  have hK : sitE c l f = if lodE c l f = 0 then (match sitO c l f with | some s => (s, 0) | none => ([], 3)) else ([], lodE c l f) := rfl
  generalize he : lodE c l f = e at hK
  by_cases h0 : e = 0
  case neg =>
    rw [if_neg h0] at hK
    have h0' : (e = 0) = False := eq_false h0
    simp -dsimp [Tryz.f19, E19, Ca.row, Sp.row]
    repeat' (first | omega | (simp -dsimp [E19, ri, cellp, ints, Ca.row, Sp.row, lodE3_dec, hP, he, h0', hK]) | (refine Also.intro ?_ fun _ => ?_) | (refine Hold.intro fun _ => ?_) | (refine And.intro ?_ ?_))
  subst h0
  rw [if_pos rfl] at hK
  have hL := lodE_zero he
  have hgo := fun h => sit_gen (M := 9) (c := c) (l := l) (f := f) (s := ⟨0, []⟩) (fun _ => rfl) (m := l.length) (Nat.sub_zero _) (h := h)
  have hSt : SitP 9 (c, l, f, ⟨0, []⟩) := ⟨hL, fun i hi => by simp at hi, by simp, by have := hL.n; have := hL.cf.n; simp; omega⟩
  have hgo2 := fun h h1 h2 h3 h4 h5 h6 h7 => (hgo h h1 h2 h3 h4 h5 h6 h7).trans (by rw [eq_true hSt])
  obtain ⟨x1, x2, x3, x4⟩ := sitX_ok c l f l.length ⟨0, []⟩ (fun _ => rfl)
  change _ → sitO c l f = _ at x3
  change _ → sitO c l f = _ ∧ _ at x4
  simp -dsimp [siL, siS3, siS4, siS5, siS9, siS10, siA, siB, siC, siF, siK, siCap] at hgo2
  generalize sitX c l f l.length ⟨0, []⟩ = R at *
  obtain ⟨b, m, w⟩ := R
  dsimp only at *
  cases b with
  | false =>
    have h3 := (x4 rfl).1
    rw [h3] at hK
    simp -dsimp [Tryz.f19, E19, Ca.row, Sp.row]
    repeat' (first | omega | (simp -dsimp [E19, ri, cellp, ints, Ca.row, Sp.row, lodE3_dec, hP, he, hgo2, hps_app, hK]) | (refine Also.intro ?_ fun _ => ?_) | (refine Hold.intro fun _ => ?_) | (refine And.intro ?_ ?_))
  | true =>
    have h3 := x3 rfl
    rw [h3] at hK
    have hm : m = 0 ∨ m = 1 ∨ ∃ j, m = j + 2 := by
      match m with
      | 0 => exact .inl rfl
      | 1 => exact .inr (.inl rfl)
      | j + 2 => exact .inr (.inr ⟨j, rfl⟩)
    rcases hm with rfl | rfl | ⟨j, rfl⟩
    · have hw : w = [] := x1 rfl
      subst hw
      simp -dsimp [Tryz.f19, E19, Ca.row, Sp.row]
      repeat' (first | omega | (simp -dsimp [E19, ri, cellp, ints, Ca.row, Sp.row, lodE3_dec, hP, he, hgo2, hps_app, hK]) | (refine Also.intro ?_ fun _ => ?_) | (refine Hold.intro fun _ => ?_) | (refine And.intro ?_ ?_))
    · simp -dsimp [Tryz.f19, E19, Ca.row, Sp.row]
      repeat' (first | omega | (simp -dsimp [E19, ri, cellp, ints, Ca.row, Sp.row, lodE3_dec, hP, he, hgo2, hps_app, hK]) | (refine Also.intro ?_ fun _ => ?_) | (refine Hold.intro fun _ => ?_) | (refine And.intro ?_ ?_))
    · simp -dsimp [Tryz.f19, E19, Ca.row, Sp.row]
      repeat' (first | omega | (simp -dsimp [E19, ri, cellp, ints, Ca.row, Sp.row, lodE3_dec, hP, he, hgo2, hps_app, hK]) | (refine Also.intro ?_ fun _ => ?_) | (refine Hold.intro fun _ => ?_) | (refine And.intro ?_ ?_))
theorem ok19 : FnOK Tryz.prog 19 (.pure SitS) := pure_fn (E := E19) rfl (.cons ok24 (.cons (ok33 9) .nil)) (ok := []) (fn := Tryz.f19) (by kernel_rfl) (by kernel_rfl) (by kernel_rfl) (by kernel_rfl) rfl (fun _ _ => by simp) b19
end Go.Sx
end
section
/- Crew: copies, bounds, the look at the examples. No conditions. -/
set_option linter.unusedSimpArgs false
set_option linter.unusedSectionVars false
set_option maxRecDepth 100000
set_option maxHeartbeats 2000000
namespace Go.Sx
open Go.Proofs
attribute [local irreducible] HLe

abbrev sameS : PSpec := { dom := List Int × List Int, enc := fun d => [ints d.1, ints d.2], dec := fun l => ((l.getD 0 .top).toInts, (l.getD 1 .top).toInts), pre := fun d => d.1.length ≤ 9223372036854775807 ∧ d.2.length ≤ 9223372036854775807, res := fun d => .bool (decide (d.1 = d.2)) }
noncomputable abbrev E20 : Env := { P := Tryz.prog, fn := tbl [], own := [], key := 2000, nt := 26 }
theorem b20 : PureBody E20 [] Tryz.f20 sameS := by
  refine pb ?_
  rintro ⟨a, b⟩ ⟨p1, p2⟩
  simp only at p1 p2
  by_cases hl : a.length = b.length
  case neg =>
    have hne : ¬ a = b := fun e => hl (by rw [e])
    have hl' : ¬ (a.length : Int) = b.length := by omega
    simp -dsimp [Tryz.f20, E20, ints, hl']
    repeat' (first | omega | (simp -dsimp [E20, ri, cellp, ints, hl', hne]) | (refine Also.intro ?_ fun _ => ?_) | (refine Hold.intro fun _ => ?_) | (refine And.intro ?_ ?_))
  have hl' : (a.length : Int) = b.length := by omega
  simp -dsimp [Tryz.f20, E20, ints, hl']
  refine awp_loop [11, 12, 13, 14, 17, 18, 19, 20, 21, 22, 23, 24, 25, 4, 15, 16, 5]
    (fun k : { k : Nat // k ≤ a.length ∧ ∀ i (h1 : i < a.length) (h2 : i < b.length), i < k → a[i] = b[i] } => [(5, (true, .int .i64 (k.1 : Nat)))])
    (fun k => noH) (fun k => a.length - k.1) ⟨0, by omega, fun _ _ _ h => by omega⟩ ?_ (HLe.refl _) ?_
  · simp [okAll, okv]
  rintro ⟨k, hk, he⟩
  simp only
  by_cases hk1 : k < a.length
  · have hk2 : k < b.length := by omega
    have w1 : IntKind.wrap .i64 ((k : Int) + 1) = (k + 1 : Nat) := wrap_id (by omega) (by omega)
    by_cases hx : a[k] = b[k]
    · simp -dsimp [hk1, hk2, hx, ri]
      repeat' (first | omega | (simp -dsimp [E20, ri, cellp, ints, hk1, hk2, hx, w1]) | (refine Also.intro ?_ fun _ => ?_) | (refine Hold.intro fun _ => ?_) | (refine And.intro ?_ ?_))
      refine ⟨k + 1, tle_chain rfl ?_, HLe.refl _, ⟨hk1, fun i h1 h2 hi => ?_⟩, by omega⟩
      · simp [okAll, okv]
      · by_cases e : i = k
        · subst e; exact hx
        · exact he i h1 h2 (by omega)
    · have hne : ¬ a = b := fun e => hx (by simp [e])
      simp -dsimp [hk1, hk2, hx, ri]
      repeat' (first | omega | (simp -dsimp [E20, ri, cellp, ints, hk1, hk2, hx, w1, hne]) | (refine Also.intro ?_ fun _ => ?_) | (refine Hold.intro fun _ => ?_) | (refine And.intro ?_ ?_))
  · have hkb : ¬ k < b.length := by omega
    have heq : a = b := List.ext_getElem hl fun i h1 h2 => he i h1 h2 (by omega)
    simp -dsimp [hk1, hkb]
    repeat' (first | omega | (simp -dsimp [E20, ri, cellp, ints, hk1, hkb, heq]) | (refine Also.intro ?_ fun _ => ?_) | (refine Hold.intro fun _ => ?_) | (refine And.intro ?_ ?_))
theorem ok20 : FnOK Tryz.prog 20 (.pure sameS) := pure_fn (E := E20) rfl LOK.nil (ok := []) (fn := Tryz.f20) (by kernel_rfl) (by kernel_rfl) (by kernel_rfl) (by kernel_rfl) rfl (fun _ _ => by simp) b20
/-! bounds -/
@[simp] def farE (d : Ro × List Du) : List V := [.agg d.1.row, .sl 3 (d.2.map Du.row)]
noncomputable abbrev farS : PSpec := mkP chE (fun _ => True) fun d => .bool (decide (20 < d.1.ppl.length) || decide (80 < d.2.length))
theorem dec_cast (a b : Nat) : decide ((a : Int) < b) = decide (a < b) := by simp
@[simp] def fcE (d : Ca × List Gu) : List V := [.agg d.1.row, .sl 4 (d.2.map Gu.row)]
theorem fcE_inj (a b : Ca × List Gu) (h : fcE a = fcE b) : a = b := by
  obtain ⟨a1, a2⟩ := a; obtain ⟨b1, b2⟩ := b
  simp only [fcE, List.cons.injEq, V.agg.injEq, V.sl.injEq, true_and, and_true] at h
  rw [Ca.row_inj _ _ h.1, mapRow_inj Gu.row_inj h.2]
theorem fcE_dec (c : Ca) (l : List Gu) : decC fcE [.agg [.int .i64 c.emp, .int .i64 c.arm, .sl 2 (c.st.map Se.row), .int .i64 c.farm, .int .i64 c.low, .int .i64 c.high], .sl 4 (l.map Gu.row)] = (c, l) := decC_eq fcE_inj (c, l)
noncomputable abbrev fcS : PSpec := mkP fcE (fun _ => True) fun d => .bool (decide (12 < d.1.st.length) || decide (12 < d.2.length))
noncomputable abbrev E5 : Env := { P := Tryz.prog, fn := tbl [], own := [], key := 500, nt := 14 }
theorem b5 : PureBody E5 [] Tryz.f5 fcS := by
  refine pb ?_
  rintro ⟨c, l⟩ _
  simp -dsimp [Tryz.f5, E5, Ca.row]
  by_cases h1 : 12 < c.st.length
  · have h1' : ((12 : Int) < c.st.length) = True := eq_true (by omega)
    repeat' (first | omega | (simp -dsimp [E5, ri, cellp, ints, Ca.row, h1, h1']) | (refine Also.intro ?_ fun _ => ?_) | (refine Hold.intro fun _ => ?_) | (refine And.intro ?_ ?_))
  · have h1' : ((12 : Int) < c.st.length) = False := eq_false (by omega)
    by_cases h2 : 12 < l.length
    · have h2' : ((12 : Int) < l.length) = True := eq_true (by omega)
      repeat' (first | omega | (simp -dsimp [E5, ri, cellp, ints, Ca.row, h1, h1', h2, h2']) | (refine Also.intro ?_ fun _ => ?_) | (refine Hold.intro fun _ => ?_) | (refine And.intro ?_ ?_))
    · have h2' : ((12 : Int) < l.length) = False := eq_false (by omega)
      repeat' (first | omega | (simp -dsimp [E5, ri, cellp, ints, Ca.row, h1, h1', h2, h2']) | (refine Also.intro ?_ fun _ => ?_) | (refine Hold.intro fun _ => ?_) | (refine And.intro ?_ ?_))
theorem ok5 : FnOK Tryz.prog 5 (.pure fcS) := pure_fn (E := E5) rfl LOK.nil (ok := []) (fn := Tryz.f5) (by kernel_rfl) (by kernel_rfl) (by kernel_rfl) (by kernel_rfl) rfl (fun _ _ => by simp) b5

/-! copies -/
@[simp] def dlE (d : List Du) : List V := [.sl 3 (d.map Du.row)]
theorem dlE_inj (a b : List Du) (h : dlE a = dlE b) : a = b := by
  simp only [dlE, List.cons.injEq, V.sl.injEq, true_and, and_true] at h
  exact mapRow_inj Du.row_inj h
theorem dlE_dec (l : List Du) : decC dlE [.sl 3 (l.map Du.row)] = l := decC_eq dlE_inj l
noncomputable abbrev dlS : PSpec := mkP dlE (fun l => l.length ≤ 1000000) fun l => .sl 3 (l.map Du.row)
@[simp] def glE (d : List Gu) : List V := [.sl 4 (d.map Gu.row)]
theorem glE_inj (a b : List Gu) (h : glE a = glE b) : a = b := by
  simp only [glE, List.cons.injEq, V.sl.injEq, true_and, and_true] at h
  exact mapRow_inj Gu.row_inj h
theorem glE_dec (l : List Gu) : decC glE [.sl 4 (l.map Gu.row)] = l := decC_eq glE_inj l
noncomputable abbrev glS : PSpec := mkP glE (fun l => l.length ≤ 1000000) fun l => .sl 4 (l.map Gu.row)
noncomputable abbrev E10 : Env := { P := Tryz.prog, fn := tbl [], own := [3], key := 1000, nt := 6 }
theorem b10 : PureBody E10 [] Tryz.f10 glS := by
  refine pb ?_
  rintro l hl
  have hl : l.length ≤ 1000000 := hl
  simp -dsimp [Tryz.f10, E10]
  repeat' (first | omega | (simp -dsimp [E10, ri, cellp, ints, hl]) | (refine Also.intro ?_ fun _ => ?_) | (refine Hold.intro fun _ => ?_) | (refine And.intro ?_ ?_))
theorem ok10 : FnOK Tryz.prog 10 (.pure glS) := pure_fn (E := E10) rfl LOK.nil (ok := []) (fn := Tryz.f10) (by kernel_rfl) (by kernel_rfl) (by kernel_rfl) (by kernel_rfl) rfl (fun _ _ => by simp) b10
noncomputable abbrev cpyS : PSpec := mkP roE (fun r => r.ppl.length ≤ 1000000) fun r => .agg r.row
noncomputable abbrev cpcS : PSpec := mkP caE (fun c => c.st.length ≤ 1000000) fun c => .agg c.row
noncomputable abbrev E9 : Env := { P := Tryz.prog, fn := tbl [], own := [5], key := 900, nt := 11 }
theorem b9 : PureBody E9 [] Tryz.f9 cpcS := by
  refine pb ?_
  rintro c hl
  have hl : c.st.length ≤ 1000000 := hl
  simp -dsimp [Tryz.f9, E9, Ca.row]
  repeat' (first | omega | (simp -dsimp [E9, ri, cellp, ints, hl, Ca.row]) | (refine Also.intro ?_ fun _ => ?_) | (refine Hold.intro fun _ => ?_) | (refine And.intro ?_ ?_))
theorem ok9 : FnOK Tryz.prog 9 (.pure cpcS) := pure_fn (E := E9) rfl LOK.nil (ok := []) (fn := Tryz.f9) (by kernel_rfl) (by kernel_rfl) (by kernel_rfl) (by kernel_rfl) rfl (fun _ _ => by simp) b9

/-! the examples -/
def exRo : Ro := { ppl := [⟨3, 2, 100⟩, ⟨1, 1, 50⟩, ⟨2, 3, 100⟩], lng := 10, rst := 8, win := 24, tot := 14, rcn := 40 }
def exDu : List Du := [⟨0, 0, 8⟩, ⟨1, 2, 10⟩]
def exCa : Ca := { emp := 1000, arm := 0, st := [⟨20, true⟩, ⟨-20, false⟩, ⟨40, false⟩], farm := 10, low := -2, high := 5 }
def exGu : List Gu := [⟨100, false, 0, false⟩, ⟨80, false, 0, true⟩]
theorem ex_u : untO exRo exDu 0 16 = (22, 0) := by
  have c : (chkE exRo exDu).2 = 0 := by decide +kernel
  have c2 := chkEW_of srtD_ok c
  have hf := (chkE_zero.1 c).1
  have hv : Val (own exDu 0) := by unfold Val; decide +kernel
  have hN : untN exRo 16 = 10 := by decide +kernel
  have hU : untL exRo (own exDu 0) 0 16 10 = 22 := by decide +kernel
  have hW : (withinB 0 0 ((exRo.ppl.length : Int) - 1) && withinB 16 0 2000) = true := by decide +kernel
  unfold untO chk2W
  rw [c2, hN, hW, untW_eq srtD_ok hf hv (by omega) 10 (by omega), hU]
  rfl
theorem ex_s : sitE exCa exGu ⟨0, 200⟩ = ([1, 0], 0) := by decide +kernel
noncomputable abbrev exS : PSpec := mkP (D := Unit) (fun _ => []) (fun _ => True) fun _ => .tup [.agg exRo.row, .sl 3 (exDu.map Du.row)]
noncomputable abbrev E16 : Env := { P := Tryz.prog, fn := tbl [], own := [], key := 1600, nt := 12 }
theorem b16 : PureBody E16 [] Tryz.f16 exS := by
  refine pb ?_
  rintro _ _
  simp -dsimp [Tryz.f16, E16]
  repeat' (first | omega | (simp -dsimp [E16, ri, cellp, ints, exRo, exDu, Ro.row, pplV, Pn.row, Du.row]) | (refine Also.intro ?_ fun _ => ?_) | (refine Hold.intro fun _ => ?_) | (refine And.intro ?_ ?_))
theorem ok16 : FnOK Tryz.prog 16 (.pure exS) := pure_fn (E := E16) rfl LOK.nil (ok := []) (fn := Tryz.f16) (by kernel_rfl) (by kernel_rfl) (by kernel_rfl) (by kernel_rfl) rfl (fun _ _ => by simp) b16
noncomputable abbrev loS : PSpec := mkP (D := Unit) (fun _ => []) (fun _ => True) fun _ => .tup [.agg exCa.row, .sl 4 (exGu.map Gu.row)]
noncomputable abbrev E18 : Env := { P := Tryz.prog, fn := tbl [], own := [], key := 1800, nt := 12 }
theorem b18 : PureBody E18 [] Tryz.f18 loS := by
  refine pb ?_
  rintro _ _
  simp -dsimp [Tryz.f18, E18]
  repeat' (first | omega | (simp -dsimp [E18, ri, cellp, ints, exCa, exGu, Ca.row, Se.row, Gu.row]) | (refine Also.intro ?_ fun _ => ?_) | (refine Hold.intro fun _ => ?_) | (refine And.intro ?_ ?_))
theorem ok18 : FnOK Tryz.prog 18 (.pure loS) := pure_fn (E := E18) rfl LOK.nil (ok := []) (fn := Tryz.f18) (by kernel_rfl) (by kernel_rfl) (by kernel_rfl) (by kernel_rfl) rfl (fun _ _ => by simp) b18
noncomputable abbrev worksS : PSpec := mkP (D := Unit) (fun _ => []) (fun _ => True) fun _ => .bool true
noncomputable abbrev E6 : Env := { P := Tryz.prog, fn := tbl [(16, .pure exS), (17, .pure untS), (18, .pure loS), (19, .pure SitS), (20, .pure sameS)], own := [], key := 600, nt := 45 }
theorem b6 : PureBody E6 [] Tryz.f6 worksS := by
  refine pb ?_
  rintro _ _
  have e1 := ex_u
  have e2 := ex_s
  have d1 := utE_dec exRo exDu 0 16
  have d2 := lodE3_dec exCa exGu ⟨0, 200⟩
  have p1 : UtP (exRo, exDu, 0, 16) := ⟨by decide +kernel, by decide +kernel⟩
  have p2 : LoP (exCa, exGu, ⟨0, 200⟩) := ⟨by decide +kernel, by decide +kernel⟩
  simp only at d1 d2
  simp -dsimp [Tryz.f6, E6, Ro.row, pplV, Ca.row]
  repeat' (first | omega | (simp -dsimp [E6, ri, cellp, ints, Ro.row, pplV, Ca.row, e1, e2, d1, d2, p1, p2, V.toInts, V.rows, rowInt, V.toInt]) | (refine Also.intro ?_ fun _ => ?_) | (refine Hold.intro fun _ => ?_) | (refine And.intro ?_ ?_))
theorem ok6 : FnOK Tryz.prog 6 (.pure worksS) := pure_fn (E := E6) rfl (.cons ok16 (.cons ok17 (.cons ok18 (.cons ok19 (.cons ok20 .nil))))) (ok := []) (fn := Tryz.f6) (by kernel_rfl) (by kernel_rfl) (by kernel_rfl) (by kernel_rfl) rfl (fun _ _ => by simp) b6
end Go.Sx
end
section
/- Crew: Lifts, of the program and of the reference. No conditions. -/
set_option linter.unusedSimpArgs false
set_option linter.unusedSectionVars false
set_option maxRecDepth 100000
set_option maxHeartbeats 16000000
namespace Go.Sx.Rot
open Go.Proofs Go.Sx Go.Sx.Tab
attribute [local irreducible] HLe
attribute [local simp] hps_app

/-- A rotor, an air, a span; a cabin, guests, fuel. -/
structure LiD where
  r : Ro
  a : Ai
  s : Sp
  deriving Inhabited
structure FrD where
  c : Ca
  g : List Gu
  f : Sp
  deriving Inhabited
def LiD.row (d : LiD) : List V := d.r.row ++ (d.a.row ++ d.s.row)
def FrD.row (d : FrD) : List V := d.c.row ++ (.sl 4 (d.g.map Gu.row) :: d.f.row)
/-- The machine with its load. -/
def lfM (d : LiD) (f : FrD) : Ma := ⟨d.r, { d.a with w := lddO f.c f.g f.f }⟩
def lfE (d : LiD) (f : FrD) : Int := if lodE f.c f.g f.f = 0 then mgE (lfM d f) d.s else lodE f.c f.g f.f
def lfV (d : LiD) (f : FrD) : Int := if lfE d f = 0 then mgnF (lfM d f) d.s else 0
structure LfP (d : LiD) (f : FrD) : Prop where
  r : RoP d.r
  l : LoP (f.c, f.g, f.f)
@[simp] def lfA (d : LiD × FrD) : List V := [.agg d.1.r.row, .agg d.1.a.row, .agg d.1.s.row, .agg d.2.c.row, .sl 4 (d.2.g.map Gu.row), .agg d.2.f.row]
theorem lfA_inj (a b : LiD × FrD) (h : lfA a = lfA b) : a = b := by
  obtain ⟨⟨a1, a2, a3⟩, a4, a5, a6⟩ := a; obtain ⟨⟨b1, b2, b3⟩, b4, b5, b6⟩ := b
  simp only [lfA, List.cons.injEq, V.agg.injEq, V.sl.injEq, true_and, and_true] at h
  obtain ⟨h1, h2, h3, h4, h5, h6⟩ := h
  rw [Ro.row_inj _ _ h1, Ai.row_inj _ _ h2, Sp.row_inj _ _ h3, Ca.row_inj _ _ h4, mapRow_inj Gu.row_inj h5, Sp.row_inj _ _ h6]
noncomputable abbrev lfS : PSpec := mkP lfA (fun d => LfP d.1 d.2) fun d => .tup [.int .i64 (lfV d.1 d.2), .int .i64 (lfE d.1 d.2)]
theorem ai_wt (a : Ai) (w : Sp) : [V.int .i64 w.lo, .int .i64 w.hi] ++ a.row.drop 2 = Ai.row { a with w := w } := rfl
@[simp] theorem ai_wt' (a : Ai) (x y : Int) : V.int .i64 x :: .int .i64 y :: a.row.drop 2 = Ai.row { a with w := ⟨x, y⟩ } := rfl
noncomputable abbrev E8 : Env := { P := Tryz.prog, fn := tbl [(12, .pure lddS), (14, .pure mrgS)], own := [], key := 800, nt := 31 }
theorem b8 : PureBody E8 [] Tryz.f8 lfS := by
  refine pb ?_
  rintro ⟨d, f⟩ ⟨hR, hL⟩
  dsimp only at hR hL
  have dl := lodE3_dec f.c f.g f.f
  have dm := mrE_dec (lfM d f) d.s
  have hM : (lfM d f).a.row = Ai.row { d.a with w := lddO f.c f.g f.f } := rfl
  have hM2 : (lfM d f).r = d.r := rfl
  have hM3 : (lfM d f).a = { d.a with w := lddO f.c f.g f.f } := rfl
  have e1 : lfE d f = if lodE f.c f.g f.f = 0 then mgE (lfM d f) d.s else lodE f.c f.g f.f := rfl
  have e2 : lfV d f = if lfE d f = 0 then mgnF (lfM d f) d.s else 0 := rfl
  rw [hM, hM2] at dm
  generalize lfE d f = E at *
  generalize lfV d f = Vv at *
  by_cases h1 : lodE f.c f.g f.f = 0
  · rw [if_pos h1] at e1
    subst e1
    simp -dsimp [Tryz.f8, E8, Ca.row, Sp.row]
    repeat' (first | omega | (simp -dsimp [E8, ri, cellp, ints, Ca.row, Sp.row, dl, dm, hM2, hM3, hR, hL, h1, e2]) | (refine Also.intro ?_ fun _ => ?_) | (refine Hold.intro fun _ => ?_) | (refine And.intro ?_ ?_))
  · rw [if_neg h1] at e1
    subst e1
    rw [if_neg h1] at e2
    simp -dsimp [Tryz.f8, E8, Ca.row, Sp.row]
    repeat' (first | omega | (simp -dsimp [E8, ri, cellp, ints, Ca.row, Sp.row, dl, hR, hL, h1, e2]) | (refine Also.intro ?_ fun _ => ?_) | (refine Hold.intro fun _ => ?_) | (refine And.intro ?_ ?_))
theorem ok8 : FnOK Tryz.prog 8 (.pure lfS) := pure_fn (E := E8) rfl (.cons ok12 (.cons ok14 .nil)) (ok := []) (fn := Tryz.f8) (by kernel_rfl) (by kernel_rfl) (by kernel_rfl) (by kernel_rfl) rfl (fun _ _ => by simp) b8
noncomputable abbrev E11 : Env := { P := Tryz.prog, fn := tbl [(22, .pure lddS), (23, .pure mrgS)], own := [], key := 1100, nt := 34 }
theorem b11 : PureBody E11 [] Tryz.f11 lfS := by
  refine pb ?_
  rintro ⟨d, f⟩ ⟨hR, hL⟩
  dsimp only at hR hL
  have dl := lodE3_dec f.c f.g f.f
  have dm := mrE_dec (lfM d f) d.s
  have hM : (lfM d f).a.row = Ai.row { d.a with w := lddO f.c f.g f.f } := rfl
  have hM2 : (lfM d f).r = d.r := rfl
  have hM3 : (lfM d f).a = { d.a with w := lddO f.c f.g f.f } := rfl
  have e1 : lfE d f = if lodE f.c f.g f.f = 0 then mgE (lfM d f) d.s else lodE f.c f.g f.f := rfl
  have e2 : lfV d f = if lfE d f = 0 then mgnF (lfM d f) d.s else 0 := rfl
  rw [hM, hM2] at dm
  generalize lfE d f = E at *
  generalize lfV d f = Vv at *
  by_cases h1 : lodE f.c f.g f.f = 0
  · rw [if_pos h1] at e1
    subst e1
    simp -dsimp [Tryz.f11, E11, Ca.row, Sp.row]
    repeat' (first | omega | (simp -dsimp [E11, ri, cellp, ints, Ca.row, Sp.row, dl, dm, hM2, hM3, hR, hL, h1, e2]) | (refine Also.intro ?_ fun _ => ?_) | (refine Hold.intro fun _ => ?_) | (refine And.intro ?_ ?_))
  · rw [if_neg h1] at e1
    subst e1
    rw [if_neg h1] at e2
    simp -dsimp [Tryz.f11, E11, Ca.row, Sp.row]
    repeat' (first | omega | (simp -dsimp [E11, ri, cellp, ints, Ca.row, Sp.row, dl, hR, hL, h1, e2]) | (refine Also.intro ?_ fun _ => ?_) | (refine Hold.intro fun _ => ?_) | (refine And.intro ?_ ?_))
theorem ok11 : FnOK Tryz.prog 11 (.pure lfS) := pure_fn (E := E11) rfl (.cons ok22 (.cons ok23 .nil)) (ok := []) (fn := Tryz.f11) (by kernel_rfl) (by kernel_rfl) (by kernel_rfl) (by kernel_rfl) rfl (fun _ _ => by simp) b11
end Go.Sx.Rot
end
