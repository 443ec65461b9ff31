/- A part of a proof; no conditions. -/
import Derived.Test.YtnpdjaikmdagmaaDoorP17
import Derived.Test.YtnpdjaikmdagmaaDoorP13
set_option linter.unusedSimpArgs false
set_option linter.unusedVariables false
set_option linter.unusedSectionVars false
section
/- Parts: Left, Lacks, Longest, Due. No conditions. -/
set_option linter.unusedSimpArgs false
set_option linter.unusedSectionVars false
set_option maxRecDepth 100000
set_option maxHeartbeats 2000000
namespace Go.Sx
open Go.Proofs
attribute [local irreducible] HLe
attribute [local simp] hps_app

structure RLN where
  r : Reg
  l : List Wk
  n : Int
  deriving Inhabited
@[simp] def rnE (d : RLN) : List V := [.agg d.r.row, .sl 4 (d.l.map Wk.row), .int .i64 d.n]
theorem rnE_inj (a b : RLN) (h : rnE a = rnE b) : a = b := by
  obtain ⟨r, l, n⟩ := a; obtain ⟨r', l', n'⟩ := b
  simp only [rnE, List.cons.injEq, V.agg.injEq, V.sl.injEq, V.int.injEq, true_and, and_true] at h
  rw [Reg.row_inj _ _ h.1, map_inj Wk.row_inj h.2.1, h.2.2]
theorem rnE_dec' (r : Reg) (l : List Wk) (n : Int) : decC rnE [.agg [.sl 3 (r.kinds.map Kd.row), .sl 4 (r.parts.map Pt.row), .int .i64 r.machines, .sl 2 (r.orders.map Od.row)], .sl 4 (l.map Wk.row), .int .i64 n] = ⟨r, l, n⟩ := decC_eq rnE_inj ⟨r, l, n⟩
def RLN.Fine (d : RLN) : Prop := RL.Fine ⟨d.r, d.l⟩
def max0 (x : Int) : Int := if x < 0 then 0 else x
structure LR where
  h : Int
  c : Int
  e : Int
def leftF (r : Reg) (l : List Wk) (n : Int) : LR :=
  if opE r l = 0 then (if (opH r l).i.part n = true then ⟨max0 ((opH r l).i.leftT ((opH r l).ps.getD n.toNat default)), max0 ((opH r l).i.leftC ((opH r l).ps.getD n.toNat default)), 0⟩ else ⟨0, 0, 1⟩) else ⟨0, 0, opE r l⟩
noncomputable abbrev leftFS : PSpec := mkP rnE RLN.Fine fun d => .tup [.int .i64 (leftF d.r d.l d.n).h, .int .i64 (leftF d.r d.l d.n).c, .int .i64 (leftF d.r d.l d.n).e]
def lacksF (r : Reg) (l : List Wk) (m : Int) : List (Int × Int) := if opE r l = 0 then (if (opH r l).i.machine m = true then (opH r l).i.lacks m else []) else []
def lacksE (r : Reg) (l : List Wk) (m : Int) : Int := if opE r l = 0 then (if (opH r l).i.machine m = true then 0 else 1) else opE r l
noncomputable abbrev lacksFS : PSpec := mkP rnE RLN.Fine fun d => .tup [prs (lacksF d.r d.l d.n), .int .i64 (lacksE d.r d.l d.n)]
structure RLM where
  r : Reg
  l : List Wk
  m : Int
  c : Int
  deriving Inhabited
@[simp] def rmE (d : RLM) : List V := [.agg d.r.row, .sl 4 (d.l.map Wk.row), .int .i64 d.m, .int .i64 d.c]
theorem rmE_inj (a b : RLM) (h : rmE a = rmE b) : a = b := by
  obtain ⟨r, l, m, c⟩ := a; obtain ⟨r', l', m', c'⟩ := b
  simp only [rmE, List.cons.injEq, V.agg.injEq, V.sl.injEq, V.int.injEq, true_and, and_true] at h
  rw [Reg.row_inj _ _ h.1, map_inj Wk.row_inj h.2.1, h.2.2.1, h.2.2.2]
theorem rmE_dec' (r : Reg) (l : List Wk) (m c : Int) : decC rmE [.agg [.sl 3 (r.kinds.map Kd.row), .sl 4 (r.parts.map Pt.row), .int .i64 r.machines, .sl 2 (r.orders.map Od.row)], .sl 4 (l.map Wk.row), .int .i64 m, .int .i64 c] = ⟨r, l, m, c⟩ := decC_eq rmE_inj ⟨r, l, m, c⟩
def RLM.Fine (d : RLM) : Prop := RL.Fine ⟨d.r, d.l⟩
def longE (r : Reg) (l : List Wk) (m c : Int) : Int := if opE r l = 0 then (if ((opH r l).i.machine m && withinB c 0 100) = true then (if (opH r l).i.longest m c < 0 then 3 else 0) else 1) else opE r l
def longF (r : Reg) (l : List Wk) (m c : Int) : Int := if longE r l m c = 0 then (opH r l).i.longest m c else 0
noncomputable abbrev longFS : PSpec := mkP rmE RLM.Fine fun d => .tup [.int .i64 (longF d.r d.l d.m d.c), .int .i64 (longE d.r d.l d.m d.c)]
noncomputable abbrev E21 : Env := { P := Tryd.prog, fn := tbl [(35, .pure openS), (38, .pure machineS), (37, .pure withinS), (50, .pure longestS)], own := [], key := 2100, nt := 40 }
theorem b21 : PureBody E21 [] Tryd.f21 longFS := by
  refine pb ?_
  rintro ⟨r, l, m, c⟩ hfn
  have hfn : RL.Fine ⟨r, l⟩ := hfn
  by_cases hE : opE r l = 0
  case neg =>
    have hR : longE r l m c = opE r l := by simp [longE, hE]
    have hR2 : longF r l m c = 0 := by simp [longF, hR, hE]
    simp -dsimp [Tryd.f21, E21, Reg.row]
    repeat' (first | omega | (simp -dsimp [E21, ri, cellp, ints, rlE_dec', Reg.row, hfn, hE, hR, hR2]) | (refine Also.intro ?_ fun _ => ?_) | (refine Hold.intro fun _ => ?_) | (refine And.intro ?_ ?_))
  have hsm := (opE_ok hE).small
  have hfit : ∀ p ∈ (opH r l).i.ps, (opH r l).i.Fit p := (opE_ok hE).fit
  cases hp : (opH r l).i.machine m
  · have hR : longE r l m c = 1 := by simp [longE, hE, hp]
    have hR2 : longF r l m c = 0 := by simp [longF, hR]
    generalize hs : opH r l = s at *
    simp -dsimp [Tryd.f21, E21, Reg.row]
    repeat' (first | omega | (simp -dsimp [E21, ri, cellp, ints, rlE_dec', Reg.row, hfn, hE, hs, HI.v, hiE_dec', hp, hR, hR2]) | (refine Also.intro ?_ fun _ => ?_) | (refine Hold.intro fun _ => ?_) | (refine And.intro ?_ ?_))
  cases hq : withinB c 0 100
  · have hR : longE r l m c = 1 := by simp [longE, hE, hp, hq]
    have hR2 : longF r l m c = 0 := by simp [longF, hR]
    generalize hs : opH r l = s at *
    simp -dsimp [Tryd.f21, E21, Reg.row]
    repeat' (first | omega | (simp -dsimp [E21, ri, cellp, ints, rlE_dec', Reg.row, hfn, hE, hs, HI.v, hiE_dec', hp, hq, hR, hR2]) | (refine Also.intro ?_ fun _ => ?_) | (refine Hold.intro fun _ => ?_) | (refine And.intro ?_ ?_))
  by_cases hn : (opH r l).i.longest m c < 0
  · have hR : longE r l m c = 3 := by simp [longE, hE, hp, hq, hn]
    have hR2 : longF r l m c = 0 := by simp [longF, hR]
    generalize hs : opH r l = s at *
    simp -dsimp [Tryd.f21, E21, Reg.row]
    repeat' (first | omega | (simp -dsimp [E21, ri, cellp, ints, rlE_dec', Reg.row, hfn, hE, hs, HI.v, hiE_dec', hmE_dec', hsm, hfit, hp, hq, hn, hR, hR2]) | (refine Also.intro ?_ fun _ => ?_) | (refine Hold.intro fun _ => ?_) | (refine And.intro ?_ ?_))
  · have hR : longE r l m c = 0 := by simp [longE, hE, hp, hq, hn]
    have hR2 : longF r l m c = (opH r l).i.longest m c := by simp [longF, hR]
    generalize hs : opH r l = s at *
    simp -dsimp [Tryd.f21, E21, Reg.row]
    repeat' (first | omega | (simp -dsimp [E21, ri, cellp, ints, rlE_dec', Reg.row, hfn, hE, hs, HI.v, hiE_dec', hmE_dec', hsm, hfit, hp, hq, hn, hR, hR2]) | (refine Also.intro ?_ fun _ => ?_) | (refine Hold.intro fun _ => ?_) | (refine And.intro ?_ ?_))
theorem ok21 : FnOK Tryd.prog 21 (.pure longFS) := pure_fn (E := E21) rfl (.cons ok35 (.cons ok38 (.cons ok37 (.cons ok50 .nil)))) (ok := []) (fn := Tryd.f21) (by kernel_rfl) (by kernel_rfl) (by kernel_rfl) (by kernel_rfl) rfl (fun _ _ => by simp) b21
end Go.Sx
end
section
/- Parts: the look at the examples. No conditions. -/
set_option linter.unusedSimpArgs false
set_option linter.unusedSectionVars false
set_option maxRecDepth 100000
set_option maxHeartbeats 2000000
namespace Go.Sx
open Go.Proofs
attribute [local irreducible] HLe
attribute [local simp] hps_app

theorem prs_inj {a b : List (Int × Int)} (h : prs a = prs b) : a = b := by
  simp only [prs, V.sl.injEq, true_and] at h; exact cycV_inj h
theorem ints_inj {a b : List Int} (h : ints a = ints b) : a = b := by
  simp only [ints, V.sl.injEq, true_and] at h; exact map_ri_inj h
theorem toPrs_rows (l : List (Int × Int)) : (V.sl 2 (l.map cycV)).toPrs = l := toPrs_prs l
def exR : Reg := { kinds := [⟨100, 50, 1⟩, ⟨1000, 1000, 2⟩], parts := [⟨0, 90, 10, true⟩, ⟨0, 0, 0, true⟩, ⟨1, 0, 0, true⟩, ⟨1, 0, 0, true⟩], machines := 1, orders := [⟨1, 5⟩] }
def exL : List Wk := [⟨2, 0, 0, 0⟩, ⟨2, 2, 0, 0⟩, ⟨2, 3, 0, 1⟩, ⟨1, 0, 4, 3⟩]
theorem ex_e : longE exR exL 0 2 = 0 := by decide +kernel
theorem ex_f : longF exR exL 0 2 = 6 := by decide +kernel
noncomputable abbrev exS : PSpec := mkP (D := Unit) (fun _ => []) (fun _ => True) fun _ => .tup [.agg [.sl 3 (exR.kinds.map Kd.row), .sl 4 (exR.parts.map Pt.row), .int .i64 exR.machines, .sl 2 (exR.orders.map Od.row)], .sl 4 (exL.map Wk.row)]
noncomputable abbrev E20 : Env := { P := Tryd.prog, fn := tbl [], own := [], key := 2000, nt := 20 }
theorem b20 : PureBody E20 [] Tryd.f20 exS := by
  refine pb ?_
  rintro _ _
  simp -dsimp [Tryd.f20, E20]
  repeat' (first | omega | (simp -dsimp [E20, ri, cellp, ints, exR, exL, Kd.row, Pt.row, Od.row, Wk.row]) | (refine Also.intro ?_ fun _ => ?_) | (refine Hold.intro fun _ => ?_) | (refine And.intro ?_ ?_))
theorem ok20 : FnOK Tryd.prog 20 (.pure exS) := pure_fn (E := E20) rfl LOK.nil (ok := []) (fn := Tryd.f20) (by kernel_rfl) (by kernel_rfl) (by kernel_rfl) (by kernel_rfl) rfl (fun _ _ => by simp) b20
def exC : List Int := [0, 5, 2, 4, 1, 6, 0]
theorem exC_e : serE exC = 0 := by decide +kernel
theorem exC_c : cycles exC = [(2, 2), (4, 2), (6, 1), (6, 1)] := by decide +kernel
noncomputable abbrev worksS : PSpec := mkP (D := Unit) (fun _ => []) (fun _ => True) fun _ => .bool true
noncomputable abbrev E7 : Env := { P := Tryd.prog, fn := tbl [(20, .pure exS), (21, .pure longFS), (22, .pure CyclesS), (23, .pure samePS)], own := [], key := 700, nt := 41 }
theorem b7 : PureBody E7 [] Tryd.f7 worksS := by
  refine pb ?_
  rintro _ _
  have f1 : RLM.Fine ⟨exR, exL, 0, 2⟩ := by refine ⟨?_, ?_, ?_, ?_⟩ <;> decide +kernel
  have e1 := ex_e
  have e2 := ex_f
  have e3 := exC_e
  have e4 := exC_c
  simp only [exC] at e3 e4
  simp -dsimp [Tryd.f7, E7]
  repeat' (first | omega | (simp -dsimp [E7, ri, cellp, ints, rmE_dec', f1, e1, e2, e3, e4, V.toInts, V.rows, rowInt, V.toPrs, cycV, cycOf, V.toInt, prs]) | (refine Also.intro ?_ fun _ => ?_) | (refine Hold.intro fun _ => ?_) | (refine And.intro ?_ ?_))
theorem ok7 : FnOK Tryd.prog 7 (.pure worksS) := pure_fn (E := E7) rfl (.cons ok20 (.cons ok21 (.cons ok22 (.cons ok23 .nil)))) (ok := []) (fn := Tryd.f7) (by kernel_rfl) (by kernel_rfl) (by kernel_rfl) (by kernel_rfl) rfl (fun _ _ => by simp) b7
end Go.Sx
end
