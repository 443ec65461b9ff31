/- Rotor: Has, Level, Wake. No conditions. -/
import Derived.Test.YtomgmojjdgiieaaGreatP32
set_option linter.unusedSimpArgs false
set_option linter.unusedVariables false
set_option linter.unusedSectionVars false
set_option linter.unusedSimpArgs false
set_option linter.unusedSectionVars false
set_option maxRecDepth 100000
set_option maxHeartbeats 8000000
namespace Go.Sx.Rot
open Go.Proofs Go.Sx Go.Sx.Tab
attribute [local irreducible] HLe
attribute [local simp] hps_app
theorem ro_tk (r : Ro) (z : List V) : List.take 26 (r.row ++ z) = r.row := List.take_left' rfl
theorem ro_dr (r : Ro) (z : List V) : List.drop 34 (r.row ++ z) = z.drop 8 := rfl
theorem ma_mk (m : Ma) : m.r.row ++ m.a.row = m.row := rfl
@[simp] def raE (m : Ma) : List V := [.agg m.r.row, .agg m.a.row]
theorem raE_inj (a b : Ma) (h : raE a = raE b) : a = b := by
  obtain ⟨a1, a2⟩ := a; obtain ⟨b1, b2⟩ := b
  simp only [raE, List.cons.injEq, V.agg.injEq, and_true] at h
  rw [show a1 = b1 from Ro.row_inj _ _ h.1, show a2 = b2 from Ai.row_inj _ _ h.2]
theorem raE_dec (m : Ma) : decC raE [.agg m.r.row, .agg m.a.row] = m := decC_eq raE_inj m
noncomputable abbrev HasS : PSpec := mkP raE (fun m => RoP m.r) fun m => .tup [.agg (if ckE m .has = 0 then bndF (powD m) else ⟨0, 0⟩).row, .int .i64 (ckE m .has)]
noncomputable abbrev E11 : Env := { P := Tryz.prog, fn := tbl [(24, .pure ckS), (26, .pure powS), (27, .pure bnS)], own := [], key := 1100, nt := 22 }
theorem b11 : PureBody E11 [] Tryz.f11 HasS := by
  refine pb ?_
  rintro m hP
  have hP : RoP m.r := hP
  have hm := ma_mk m
  have d1 := ck_has m
  have d2 := maE_dec m
  have d3 := lkE_dec (powD m)
  have hT : TbP (powD m).t := hP.l ⟨m.r.p, 0, 100000⟩ (by simp [limL])
  by_cases h : ckE m .has = 0
  · simp -dsimp [Tryz.f11, E11, Sp.row]
    repeat' (first | omega | (simp -dsimp [E11, ri, cellp, ints, Sp.row, hP, ro_tk, ro_dr, hm, h, maI, kdS, kdF, lkR, d1, d2, d3, hT]) | (refine Also.intro ?_ fun _ => ?_) | (refine Hold.intro fun _ => ?_) | (refine And.intro ?_ ?_))
    exact List.all_eq_true.1 (ro_cell m.r)
  · simp -dsimp [Tryz.f11, E11, Sp.row]
    repeat' (first | omega | (simp -dsimp [E11, ri, cellp, ints, Sp.row, hP, ro_tk, ro_dr, hm, h, maI, kdS, kdF, lkR, d1, d2, d3, hT]) | (refine Also.intro ?_ fun _ => ?_) | (refine Hold.intro fun _ => ?_) | (refine And.intro ?_ ?_))
    exact List.all_eq_true.1 (ro_cell m.r)
theorem ok11 : FnOK Tryz.prog 11 (.pure HasS) := pure_fn (E := E11) rfl (.cons ok24 (.cons ok26 (.cons ok27 .nil))) (ok := []) (fn := Tryz.f11) (by kernel_rfl) (by kernel_rfl) (by kernel_rfl) (by kernel_rfl) rfl (fun _ _ => by simp) b11
noncomputable abbrev clvS : PSpec := mkP mbE (fun d => RoP d.1.r) fun d => .int .i64 (ckE d.1 (.lvl d.2))
noncomputable abbrev E90 : Env := { P := Tryz.prog, fn := tbl [(24, .pure ckS)], own := [], key := 9000, nt := 13 }
theorem b90 : PureBody E90 [] Tryz.f90 clvS := by
  refine pb ?_
  rintro ⟨m, s⟩ hP
  have hP : RoP m.r := hP
  have d1 := ck_lvl m s
  simp -dsimp [Tryz.f90, E90, Sp.row]
  repeat' (first | omega | (simp -dsimp [E90, ri, cellp, ints, Sp.row, hP, maI, spI, kdS, kdF, d1]) | (refine Also.intro ?_ fun _ => ?_) | (refine Hold.intro fun _ => ?_) | (refine And.intro ?_ ?_))
theorem ok90 : FnOK Tryz.prog 90 (.pure clvS) := pure_fn (E := E90) rfl (.cons ok24 .nil) (ok := []) (fn := Tryz.f90) (by kernel_rfl) (by kernel_rfl) (by kernel_rfl) (by kernel_rfl) rfl (fun _ _ => by simp) b90
@[simp] def rasE (d : Ma × Sp) : List V := [.agg d.1.r.row, .agg d.1.a.row, .agg d.2.row]
theorem rasE_inj (a b : Ma × Sp) (h : rasE a = rasE b) : a = b := by
  obtain ⟨⟨a1, a2⟩, a3⟩ := a; obtain ⟨⟨b1, b2⟩, b3⟩ := b
  simp only [rasE, List.cons.injEq, V.agg.injEq, and_true] at h
  rw [show a1 = b1 from Ro.row_inj _ _ h.1, show a2 = b2 from Ai.row_inj _ _ h.2.1, show a3 = b3 from Sp.row_inj _ _ h.2.2]
theorem rasE_dec (m : Ma) (s : Sp) : decC rasE [.agg m.r.row, .agg m.a.row, .agg [.int .i64 s.lo, .int .i64 s.hi]] = (m, s) := decC_eq rasE_inj (m, s)
noncomputable abbrev LevS : PSpec := mkP rasE (fun d => RoP d.1.r) fun d => .tup [.agg (if ckE d.1 (.lvl d.2) = 0 then bndF (levD d.1 d.2) else ⟨0, 0⟩).row, .int .i64 (ckE d.1 (.lvl d.2))]
noncomputable abbrev E59 : Env := { P := Tryz.prog, fn := tbl [(90, .pure clvS), (91, .pure levS), (27, .pure bnS)], own := [], key := 5900, nt := 24 }
theorem b59 : PureBody E59 [] Tryz.f59 LevS := by
  refine pb ?_
  rintro ⟨m, s⟩ hP
  have hP : RoP m.r := hP
  have hm := ma_mk m
  have d2 := mbE_dec m s
  have d3 := lkE_dec (levD m s)
  have hT : TbP (levD m s).t := hP.l ⟨m.r.l, 0, 100000⟩ (by simp [limL])
  by_cases h : ckE m (.lvl s) = 0
  · simp -dsimp [Tryz.f59, E59, Sp.row]
    repeat' (first | omega | (simp -dsimp [E59, ri, cellp, ints, Sp.row, hP, ro_tk, ro_dr, hm, h, lkR, d2, d3, hT]) | (refine Also.intro ?_ fun _ => ?_) | (refine Hold.intro fun _ => ?_) | (refine And.intro ?_ ?_))
    exact List.all_eq_true.1 (ro_cell m.r)
  · simp -dsimp [Tryz.f59, E59, Sp.row]
    repeat' (first | omega | (simp -dsimp [E59, ri, cellp, ints, Sp.row, hP, ro_tk, ro_dr, hm, h, lkR, d2, d3, hT]) | (refine Also.intro ?_ fun _ => ?_) | (refine Hold.intro fun _ => ?_) | (refine And.intro ?_ ?_))
    exact List.all_eq_true.1 (ro_cell m.r)
theorem ok59 : FnOK Tryz.prog 59 (.pure LevS) := pure_fn (E := E59) rfl (.cons ok90 (.cons ok91 (.cons ok27 .nil))) (ok := []) (fn := Tryz.f59) (by kernel_rfl) (by kernel_rfl) (by kernel_rfl) (by kernel_rfl) rfl (fun _ _ => by simp) b59
def wkB (m : Ma) (s t : Sp) : Bool := decide ((bndF (rngD m s)).lo ≤ t.hi) && decide (t.lo ≤ (bndF (rgHD m s)).hi)
@[simp] def mbbE (d : Ma × Sp × Sp) : List V := [.agg d.1.row, .agg d.2.1.row, .agg d.2.2.row]
theorem mbbE_inj (a b : Ma × Sp × Sp) (h : mbbE a = mbbE b) : a = b := by
  obtain ⟨a1, a2, a3⟩ := a; obtain ⟨b1, b2, b3⟩ := b
  simp only [mbbE, List.cons.injEq, V.agg.injEq, and_true] at h
  rw [show a1 = b1 from Ma.row_inj _ _ h.1, show a2 = b2 from Sp.row_inj _ _ h.2.1, show a3 = b3 from Sp.row_inj _ _ h.2.2]
theorem mbbE_dec (m : Ma) (s t : Sp) : decC mbbE [.agg m.row, .agg [.int .i64 s.lo, .int .i64 s.hi], .agg [.int .i64 t.lo, .int .i64 t.hi]] = (m, s, t) := decC_eq mbbE_inj (m, s, t)
noncomputable abbrev wkbS : PSpec := mkP mbbE (fun d => RoP d.1.r) fun d => .bool (wkB d.1 d.2.1 d.2.2)
noncomputable abbrev E94 : Env := { P := Tryz.prog, fn := tbl [(93, .pure rngS), (27, .pure bnS)], own := [], key := 9400, nt := 34 }
theorem b94 : PureBody E94 [] Tryz.f94 wkbS := by
  refine pb ?_
  rintro ⟨m, s, t⟩ hP
  have hP : RoP m.r := hP
  have d2 := mbE_dec m s
  have d3 := lkE_dec (rngD m s)
  have d4 : decC lkE [.agg [.sl 1 (m.r.rh.xs.map ri), .sl 1 (m.r.rh.ys.map ri), .sl 1 (m.r.rh.vs.map rwI), .int .i64 s.lo, .int .i64 s.hi, .int .i64 m.a.w.lo, .int .i64 m.a.w.hi]] = rgHD m s := lkE_dec (rgHD m s)
  have hT : TbP (rngD m s).t := hP.l ⟨m.r.rl, 0, 10000⟩ (by simp [limL])
  have hT2 : TbP m.r.rh := hP.l ⟨m.r.rh, 0, 10000⟩ (by simp [limL])
  have k1 : (rgHD m s).t = m.r.rh := rfl
  have k2 : (rgHD m s).a = s := rfl
  have k3 : (rgHD m s).b = m.a.w := rfl
  have hz : wkB m s t = (decide ((bndF (rngD m s)).lo ≤ t.hi) && decide (t.lo ≤ (bndF (rgHD m s)).hi)) := rfl
  by_cases g1 : (bndF (rngD m s)).lo ≤ t.hi
  all_goals
    simp -dsimp [Tryz.f94, E94, Sp.row]
    repeat' (first | omega | (simp -dsimp [E94, ri, cellp, ints, Sp.row, hP, lkR, d2, d3, d4, k1, k2, k3, hT, hT2, hz, g1]) | (refine Also.intro ?_ fun _ => ?_) | (refine Hold.intro fun _ => ?_) | (refine And.intro ?_ ?_))
theorem ok94 : FnOK Tryz.prog 94 (.pure wkbS) := pure_fn (E := E94) rfl (.cons ok93 (.cons ok27 .nil)) (ok := []) (fn := Tryz.f94) (by kernel_rfl) (by kernel_rfl) (by kernel_rfl) (by kernel_rfl) rfl (fun _ _ => by simp) b94
@[simp] def rassE (d : Ma × Sp × Sp) : List V := [.agg d.1.r.row, .agg d.1.a.row, .agg d.2.1.row, .agg d.2.2.row]
theorem rassE_inj (a b : Ma × Sp × Sp) (h : rassE a = rassE b) : a = b := by
  obtain ⟨⟨a1, a2⟩, a3, a4⟩ := a; obtain ⟨⟨b1, b2⟩, b3, b4⟩ := b
  simp only [rassE, List.cons.injEq, V.agg.injEq, and_true] at h
  rw [show a1 = b1 from Ro.row_inj _ _ h.1, show a2 = b2 from Ai.row_inj _ _ h.2.1, show a3 = b3 from Sp.row_inj _ _ h.2.2.1, show a4 = b4 from Sp.row_inj _ _ h.2.2.2]
theorem rassE_dec (m : Ma) (s t : Sp) : decC rassE [.agg m.r.row, .agg m.a.row, .agg [.int .i64 s.lo, .int .i64 s.hi], .agg [.int .i64 t.lo, .int .i64 t.hi]] = (m, s, t) := decC_eq rassE_inj (m, s, t)
noncomputable abbrev WakS : PSpec := mkP rassE (fun d => RoP d.1.r) fun d => .tup [.bool (if ckE d.1 (.wk d.2.1 d.2.2) = 0 then wkB d.1 d.2.1 d.2.2 else false), .int .i64 (ckE d.1 (.wk d.2.1 d.2.2))]
noncomputable abbrev E61 : Env := { P := Tryz.prog, fn := tbl [(24, .pure ckS), (94, .pure wkbS)], own := [], key := 6100, nt := 29 }
theorem b61 : PureBody E61 [] Tryz.f61 WakS := by
  refine pb ?_
  rintro ⟨m, s, t⟩ hP
  have hP : RoP m.r := hP
  have hm := ma_mk m
  have d1 := ck_wk m s t
  have d2 := mbbE_dec m s t
  by_cases h : ckE m (.wk s t) = 0
  · simp -dsimp [Tryz.f61, E61, Sp.row]
    repeat' (first | omega | (simp -dsimp [E61, ri, cellp, ints, Sp.row, hP, ro_tk, ro_dr, hm, h, maI, spI, kdS, kdF, d1, d2]) | (refine Also.intro ?_ fun _ => ?_) | (refine Hold.intro fun _ => ?_) | (refine And.intro ?_ ?_))
    exact List.all_eq_true.1 (ro_cell m.r)
  · simp -dsimp [Tryz.f61, E61, Sp.row]
    repeat' (first | omega | (simp -dsimp [E61, ri, cellp, ints, Sp.row, hP, ro_tk, ro_dr, hm, h, maI, spI, kdS, kdF, d1, d2]) | (refine Also.intro ?_ fun _ => ?_) | (refine Hold.intro fun _ => ?_) | (refine And.intro ?_ ?_))
    exact List.all_eq_true.1 (ro_cell m.r)
theorem ok61 : FnOK Tryz.prog 61 (.pure WakS) := pure_fn (E := E61) rfl (.cons ok24 (.cons ok94 .nil)) (ok := []) (fn := Tryz.f61) (by kernel_rfl) (by kernel_rfl) (by kernel_rfl) (by kernel_rfl) rfl (fun _ _ => by simp) b61
end Go.Sx.Rot
