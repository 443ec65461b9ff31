/- A part of a proof; no conditions. -/
import Derived.Test.YtomgmojjdgiieaaGreatP30
set_option linter.unusedSimpArgs false
set_option linter.unusedVariables false
set_option linter.unusedSectionVars false
section
/- Rotor: level, ring; the errors of a rotor in an air. No conditions. -/
set_option linter.unusedSimpArgs false
set_option linter.unusedSectionVars false
set_option maxRecDepth 100000
set_option maxHeartbeats 4000000
namespace Go.Sx.Rot
open Go.Proofs Go.Sx Go.Sx.Tab
attribute [local irreducible] HLe
attribute [local simp] hps_app
def dn (z : Nat) : V → V
  | .nil => .sl z []
  | v => v
@[simp] theorem dn_nil (z : Nat) : dn z .nil = .sl z [] := rfl
@[simp] theorem dn_sl (z z' : Nat) (l : List (List V)) : dn z (.sl z' l) = .sl z' l := rfl
@[simp] theorem dn_fn (z f : Nat) (l : List V) : dn z (.fn f l) = .fn f l := rfl
@[simp] theorem dn_agg (z : Nat) (l : List V) : dn z (.agg l) = .agg l := rfl
theorem fn_dec {P : Program} {n : FuncId} {D : Type} {E : D → List V} {dec : List V → D} {pre : D → Prop} {R : D → V} (dec' : List V → D) (h : FnOK P n (.pure ⟨D, E, dec, pre, R⟩)) : FnOK P n (.pure ⟨D, E, dec', pre, R⟩) where
  call := h.call
  heap := fun _ h => by cases h
  iter := fun _ h => by cases h
  pure := fun S' hS => by
    cases hS
    intro d hd
    exact h.pure _ rfl d hd
def roS0 (r : Ro) : Site := { base := 0, blks := [{ z := 26, els := [r.row], ty := 27 }] }
def aiS0 (a : Ai) : Site := { base := 0, blks := [{ z := 8, els := [a.row], ty := 33 }] }
def levD (m : Ma) (s : Sp) : BdD := ⟨m.r.l, s, m.a.w⟩
def rngD (m : Ma) (s : Sp) : BdD := ⟨m.r.rl, s, m.a.w⟩
def rgHD (m : Ma) (s : Sp) : BdD := ⟨m.r.rh, s, m.a.w⟩
@[simp] theorem ma_l (m : Ma) : (m.row.drop 6).take 3 = [ints m.r.l.xs, ints m.r.l.ys, .sl 1 (m.r.l.vs.map rwI)] := rfl
@[simp] theorem ma_rl (m : Ma) : (m.row.drop 15).take 3 = [ints m.r.rl.xs, ints m.r.rl.ys, .sl 1 (m.r.rl.vs.map rwI)] := rfl
@[simp] theorem ma_rh (m : Ma) : (m.row.drop 18).take 3 = [ints m.r.rh.xs, ints m.r.rh.ys, .sl 1 (m.r.rh.vs.map rwI)] := rfl
noncomputable abbrev levS : PSpec := mkP mbE (fun _ => True) fun d => .agg (lkR (levD d.1 d.2))
noncomputable abbrev rngS : PSpec := mkP mbE (fun _ => True) fun d => .agg (lkR (rngD d.1 d.2))
noncomputable abbrev E91 : Env := { P := Tryz.prog, fn := tbl [], own := [], key := 9100, nt := 13 }
theorem b91 : PureBody E91 [] Tryz.f91 levS := by
  refine pb ?_
  rintro ⟨m, s⟩ _
  simp -dsimp [Tryz.f91, E91, Sp.row]
  repeat' (first | omega | (simp -dsimp [E91, ri, cellp, ints, Sp.row, lkR, levD, tabR]) | (refine Also.intro ?_ fun _ => ?_) | (refine Hold.intro fun _ => ?_) | (refine And.intro ?_ ?_))
theorem ok91 : FnOK Tryz.prog 91 (.pure levS) := pure_fn (E := E91) rfl LOK.nil (ok := []) (fn := Tryz.f91) (by kernel_rfl) (by kernel_rfl) (by kernel_rfl) (by kernel_rfl) rfl (fun _ _ => by simp) b91
noncomputable abbrev E93 : Env := { P := Tryz.prog, fn := tbl [], own := [], key := 9300, nt := 13 }
theorem b93 : PureBody E93 [] Tryz.f93 rngS := by
  refine pb ?_
  rintro ⟨m, s⟩ _
  simp -dsimp [Tryz.f93, E93, Sp.row]
  repeat' (first | omega | (simp -dsimp [E93, ri, cellp, ints, Sp.row, lkR, rngD, tabR]) | (refine Also.intro ?_ fun _ => ?_) | (refine Hold.intro fun _ => ?_) | (refine And.intro ?_ ?_))
theorem ok93 : FnOK Tryz.prog 93 (.pure rngS) := pure_fn (E := E93) rfl LOK.nil (ok := []) (fn := Tryz.f93) (by kernel_rfl) (by kernel_rfl) (by kernel_rfl) (by kernel_rfl) rfl (fun _ _ => by simp) b93
inductive Kd where
  | has
  | lvl (s : Sp)
  | wk (s t : Sp)
  deriving Inhabited
def kdS : Kd → List Sp
  | .has => []
  | .lvl s => [s]
  | .wk s t => [s, t]
def kdL (m : Ma) : Kd → List BdD
  | .has => [powD m]
  | .lvl s => [levD m s]
  | .wk s _ => [rngD m s]
def kdF (m : Ma) : Kd → V
  | .has => .fn 25 [maI m]
  | .lvl s => .fn 117 [maI m, spI s]
  | .wk s _ => .fn 92 [maI m, spI s]
@[simp] def mtE1 (m : Ma) : List V := [maI m]
noncomputable abbrev hasTS : PSpec := mkP mtE1 (fun _ => True) fun m => .sl 7 [lkR (powD m)]
noncomputable abbrev lvlTS : PSpec := mkP mtE (fun _ => True) fun d => .sl 7 [lkR (levD d.1 d.2)]
noncomputable abbrev wkTS : PSpec := mkP mtE (fun _ => True) fun d => .sl 7 [lkR (rngD d.1 d.2)]
theorem maI_inj (a b : Ma) (h : mtE1 a = mtE1 b) : a = b := by
  simp only [mtE1, maI, List.cons.injEq, V.ip.injEq, true_and, and_true] at h
  exact Ma.row_inj _ _ h
theorem maI_dec (m : Ma) : decC mtE1 [.ip 34 [m.row] 0 0] = m := decC_eq maI_inj m
noncomputable abbrev E25 : Env := { P := Tryz.prog, fn := tbl [(26, .pure powS)], own := [], key := 2500, nt := 5 }
theorem b25 : PureBody E25 [] Tryz.f25 hasTS := by
  refine pb ?_
  rintro m _
  have d1 := maE_dec m
  simp -dsimp [Tryz.f25, E25, maI]
  repeat' (first | omega | (simp -dsimp [E25, ri, cellp, ints, maI, d1]) | (refine Also.intro ?_ fun _ => ?_) | (refine Hold.intro fun _ => ?_) | (refine And.intro ?_ ?_))
theorem ok25 : FnOK Tryz.prog 25 (.pure hasTS) := pure_fn (E := E25) rfl (.cons ok26 .nil) (ok := []) (fn := Tryz.f25) (by kernel_rfl) (by kernel_rfl) (by kernel_rfl) (by kernel_rfl) rfl (fun _ _ => by simp) b25
noncomputable abbrev E117 : Env := { P := Tryz.prog, fn := tbl [(91, .pure levS)], own := [], key := 11700, nt := 7 }
theorem b117 : PureBody E117 [] Tryz.f117 lvlTS := by
  refine pb ?_
  rintro ⟨m, s⟩ _
  have d1 := mbE_dec m s
  simp -dsimp [Tryz.f117, E117, maI, spI, Sp.row]
  repeat' (first | omega | (simp -dsimp [E117, ri, cellp, ints, Sp.row, maI, spI, d1]) | (refine Also.intro ?_ fun _ => ?_) | (refine Hold.intro fun _ => ?_) | (refine And.intro ?_ ?_))
theorem ok117 : FnOK Tryz.prog 117 (.pure lvlTS) := pure_fn (E := E117) rfl (.cons ok91 .nil) (ok := []) (fn := Tryz.f117) (by kernel_rfl) (by kernel_rfl) (by kernel_rfl) (by kernel_rfl) rfl (fun _ _ => by simp) b117
noncomputable abbrev E92 : Env := { P := Tryz.prog, fn := tbl [(93, .pure rngS)], own := [], key := 9200, nt := 7 }
theorem b92 : PureBody E92 [] Tryz.f92 wkTS := by
  refine pb ?_
  rintro ⟨m, s⟩ _
  have d1 := mbE_dec m s
  simp -dsimp [Tryz.f92, E92, maI, spI, Sp.row]
  repeat' (first | omega | (simp -dsimp [E92, ri, cellp, ints, Sp.row, maI, spI, d1]) | (refine Also.intro ?_ fun _ => ?_) | (refine Hold.intro fun _ => ?_) | (refine And.intro ?_ ?_))
theorem ok92 : FnOK Tryz.prog 92 (.pure wkTS) := pure_fn (E := E92) rfl (.cons ok93 .nil) (ok := []) (fn := Tryz.f92) (by kernel_rfl) (by kernel_rfl) (by kernel_rfl) (by kernel_rfl) rfl (fun _ _ => by simp) b92
end Go.Sx.Rot
end
section
/- The reference's layer 2: Check. No conditions. -/
set_option linter.unusedSimpArgs false
set_option linter.unusedSectionVars false
set_option maxRecDepth 100000
set_option maxHeartbeats 8000000
namespace Go.Sx.Rot
open Go.Proofs Go.Sx Go.Sx.Tab
attribute [local irreducible] HLe
attribute [local simp] hps_app
@[simp] theorem ro_15 (r : Ro) : r.row[15]? = some (.sl 1 (r.rl.xs.map ri)) := rfl
@[simp] theorem ro_16 (r : Ro) : r.row[16]? = some (.sl 1 (r.rl.ys.map ri)) := rfl
@[simp] theorem ro_17 (r : Ro) : r.row[17]? = some (.sl 1 (r.rl.vs.map rwI)) := rfl
@[simp] theorem ro_18 (r : Ro) : r.row[18]? = some (.sl 1 (r.rh.xs.map ri)) := rfl
@[simp] theorem ro_19 (r : Ro) : r.row[19]? = some (.sl 1 (r.rh.ys.map ri)) := rfl
@[simp] theorem ro_20 (r : Ro) : r.row[20]? = some (.sl 1 (r.rh.vs.map rwI)) := rfl
noncomputable abbrev E62 : Env := { P := Tryz.prog, fn := tbl [(95, .pure fiS), (96, .pure eqS), (97, .pure withinS)], own := [], key := 6200, nt := 114 }
theorem b62 : PureBody E62 [] Tryz.f62 rotS := by
  refine pb ?_
  rintro r hP
  have p0 : TbP r.h := hP.l ⟨r.h, 0, 100000⟩ (by simp [limL])
  have p1 : TbP r.g := hP.l ⟨r.g, 0, 100⟩ (by simp [limL])
  have p2 : TbP r.l := hP.l ⟨r.l, 0, 100000⟩ (by simp [limL])
  have p3 : TbP r.p := hP.l ⟨r.p, 0, 100000⟩ (by simp [limL])
  have p4 : TbP r.n := hP.l ⟨r.n, 0, 10000⟩ (by simp [limL])
  have p5 : TbP r.rl := hP.l ⟨r.rl, 0, 10000⟩ (by simp [limL])
  have p6 : TbP r.rh := hP.l ⟨r.rh, 0, 10000⟩ (by simp [limL])
  have p7 : TbP r.gl := hP.l ⟨r.gl, 1, 10000⟩ (by simp [limL])
  cases c0 : limB ⟨r.h, 0, 100000⟩
  · have hz := rot_no (r := r) (k := 0) rfl c0
    simp -dsimp [Tryz.f62, E62]
    repeat' (first | omega | (simp -dsimp [E62, ri, cellp, ints, fiE_dec, p0, c0, hz]) | (refine Also.intro ?_ fun _ => ?_) | (refine Hold.intro fun _ => ?_) | (refine And.intro ?_ ?_))
  cases c1 : limB ⟨r.g, 0, 100⟩
  · have hz := rot_no (r := r) (k := 1) rfl c1
    simp -dsimp [Tryz.f62, E62]
    repeat' (first | omega | (simp -dsimp [E62, ri, cellp, ints, fiE_dec, p0, c0, p1, c1, hz]) | (refine Also.intro ?_ fun _ => ?_) | (refine Hold.intro fun _ => ?_) | (refine And.intro ?_ ?_))
  cases c2 : limB ⟨r.l, 0, 100000⟩
  · have hz := rot_no (r := r) (k := 2) rfl c2
    simp -dsimp [Tryz.f62, E62]
    repeat' (first | omega | (simp -dsimp [E62, ri, cellp, ints, fiE_dec, p0, c0, p1, c1, p2, c2, hz]) | (refine Also.intro ?_ fun _ => ?_) | (refine Hold.intro fun _ => ?_) | (refine And.intro ?_ ?_))
  cases c3 : limB ⟨r.p, 0, 100000⟩
  · have hz := rot_no (r := r) (k := 3) rfl c3
    simp -dsimp [Tryz.f62, E62]
    repeat' (first | omega | (simp -dsimp [E62, ri, cellp, ints, fiE_dec, p0, c0, p1, c1, p2, c2, p3, c3, hz]) | (refine Also.intro ?_ fun _ => ?_) | (refine Hold.intro fun _ => ?_) | (refine And.intro ?_ ?_))
  cases c4 : limB ⟨r.n, 0, 10000⟩
  · have hz := rot_no (r := r) (k := 4) rfl c4
    simp -dsimp [Tryz.f62, E62]
    repeat' (first | omega | (simp -dsimp [E62, ri, cellp, ints, fiE_dec, p0, c0, p1, c1, p2, c2, p3, c3, p4, c4, hz]) | (refine Also.intro ?_ fun _ => ?_) | (refine Hold.intro fun _ => ?_) | (refine And.intro ?_ ?_))
  cases c5 : limB ⟨r.rl, 0, 10000⟩
  · have hz := rot_no (r := r) (k := 5) rfl c5
    simp -dsimp [Tryz.f62, E62]
    repeat' (first | omega | (simp -dsimp [E62, ri, cellp, ints, fiE_dec, p0, c0, p1, c1, p2, c2, p3, c3, p4, c4, p5, c5, hz]) | (refine Also.intro ?_ fun _ => ?_) | (refine Hold.intro fun _ => ?_) | (refine And.intro ?_ ?_))
  cases c6 : limB ⟨r.rh, 0, 10000⟩
  · have hz := rot_no (r := r) (k := 6) rfl c6
    simp -dsimp [Tryz.f62, E62]
    repeat' (first | omega | (simp -dsimp [E62, ri, cellp, ints, fiE_dec, p0, c0, p1, c1, p2, c2, p3, c3, p4, c4, p5, c5, p6, c6, hz]) | (refine Also.intro ?_ fun _ => ?_) | (refine Hold.intro fun _ => ?_) | (refine And.intro ?_ ?_))
  cases c7 : limB ⟨r.gl, 1, 10000⟩
  · have hz := rot_no (r := r) (k := 7) rfl c7
    simp -dsimp [Tryz.f62, E62]
    repeat' (first | omega | (simp -dsimp [E62, ri, cellp, ints, fiE_dec, p0, c0, p1, c1, p2, c2, p3, c3, p4, c4, p5, c5, p6, c6, p7, c7, hz]) | (refine Also.intro ?_ fun _ => ?_) | (refine Hold.intro fun _ => ?_) | (refine And.intro ?_ ?_))
  have hAll : (limL r).all limB = true := by simp [limL, c0, c1, c2, c3, c4, c5, c6, c7]
  have a5 : tbB r.rl = true := by simp only [limB, Bool.and_eq_true] at c5; exact c5.1
  have a6 : tbB r.rh = true := by simp only [limB, Bool.and_eq_true] at c6; exact c6.1
  obtain ⟨n1, n2, n3⟩ := tbB_len a5
  obtain ⟨m1, m2, m3⟩ := tbB_len a6
  have r5 := tbB_rows a5
  have r6 := tbB_rows a6
  have l1 : r.rl.xs.length ≤ 1000000 := by omega
  have l2 : r.rl.ys.length ≤ 1000000 := by omega
  have l3 : r.rh.xs.length ≤ 1000000 := by omega
  have l4 : r.rh.ys.length ≤ 1000000 := by omega
  by_cases d1 : r.rl.xs = r.rh.xs
  case neg =>
    have hz : rotE r = 20 := by simp [rotE, rotB, d1]
    simp -dsimp [Tryz.f62, E62]
    repeat' (first | omega | (simp -dsimp [E62, ri, cellp, ints, fiE_dec, p0, c0, p1, c1, p2, c2, p3, c3, p4, c4, p5, c5, p6, c6, p7, c7, eqE_dec, d1, l1, l2, l3, l4, hz]) | (refine Also.intro ?_ fun _ => ?_) | (refine Hold.intro fun _ => ?_) | (refine And.intro ?_ ?_))
  have d1' := eq_true d1
  by_cases d2 : r.rl.ys = r.rh.ys
  case neg =>
    have hz : rotE r = 20 := by simp [rotE, rotB, d2]
    simp -dsimp [Tryz.f62, E62]
    repeat' (first | omega | (simp -dsimp [E62, ri, cellp, ints, fiE_dec, p0, c0, p1, c1, p2, c2, p3, c3, p4, c4, p5, c5, p6, c6, p7, c7, eqE_dec, l1, l2, l3, l4, d1', d2, hz]) | (refine Also.intro ?_ fun _ => ?_) | (refine Hold.intro fun _ => ?_) | (refine And.intro ?_ ?_))
  have d2' := eq_true d2
  cases g1 : withinB r.climb 1 1000
  · have hz : rotE r = 20 := by simp [rotE, rotB, g1]
    simp -dsimp [Tryz.f62, E62]
    repeat' (first | omega | (simp -dsimp [E62, ri, cellp, ints, fiE_dec, p0, c0, p1, c1, p2, c2, p3, c3, p4, c4, p5, c5, p6, c6, p7, c7, eqE_dec, l1, l2, l3, l4, d1', d2', g1, hz]) | (refine Also.intro ?_ fun _ => ?_) | (refine Hold.intro fun _ => ?_) | (refine And.intro ?_ ?_))
  cases g2 : withinB r.burn 1 1000
  · have hz : rotE r = 20 := by simp [rotE, rotB, g2]
    simp -dsimp [Tryz.f62, E62]
    repeat' (first | omega | (simp -dsimp [E62, ri, cellp, ints, fiE_dec, p0, c0, p1, c1, p2, c2, p3, c3, p4, c4, p5, c5, p6, c6, p7, c7, eqE_dec, l1, l2, l3, l4, d1', d2', g1, g2, hz]) | (refine Also.intro ?_ fun _ => ?_) | (refine Hold.intro fun _ => ?_) | (refine And.intro ?_ ?_))
  have hz : rotE r = if lesB r.rl r.rh = true then 0 else 20 := by simp [rotE, rotB, d1, d2, g1, g2, hAll]
  simp -dsimp [Tryz.f62, E62]
  repeat' (first | omega | (simp -dsimp [E62, ri, cellp, ints, fiE_dec, p0, c0, p1, c1, p2, c2, p3, c3, p4, c4, p5, c5, p6, c6, p7, c7, eqE_dec, l1, l2, l3, l4, d1', d2', g1, g2]) | (refine Also.intro ?_ fun _ => ?_) | (refine Hold.intro fun _ => ?_) | (refine And.intro ?_ ?_))
  refine awp_loop [79, 80, 81, 82, 83, 84, 4, 87, 88, 89, 90, 91, 92, 95, 96, 97, 98, 99, 100, 101, 102, 103, 104, 105, 106, 107, 108, 109, 110, 111, 112, 113, 2, 93, 94, 85, 86, 3] (fun k : { k : Nat // k ≤ r.rl.xs.length ∧ ∀ i, i < k → ∀ j, j < (r.rl.vs.getD i []).length → r.rl.v i j ≤ r.rh.v i j } => [(3, (true, .int .i64 k.1))]) (fun _ => hps [(6201, roS0 r)] noH) (fun k => r.rl.xs.length - k.1) ⟨0, by omega, fun _ h => by omega⟩ ?_ ?_ ?_
  · simp [okAll, okv]
  · exact (by (try simp -dsimp only [hpush_noH, hpush_hps, hps_over]); refine hle_hps ?_; simp -dsimp [allK, roS0]; repeat' (first | (refine And.intro ?_ ?_) | (refine sLe.same ?_ ?_ <;> (simp; done)) | (refine sLe.clear ?_ ?_ <;> (first | (simp; done) | (simp; omega))) | (refine sLe.drop 1 ?_ ?_ ?_ <;> (simp; done))))
  rintro ⟨k, hk, hall⟩
  dsimp only
  by_cases hk1 : k < r.rl.xs.length
  · have hki : (k : Int) < r.rl.xs.length := by omega
    have wk : IntKind.wrap .i64 ((k : Int) + 1) = (k + 1 : Nat) := wrap_id (by omega) (by omega)
    have hkv : k < r.rl.vs.length := by omega
    have hk2 : k < r.rh.vs.length := by rw [m3, ← d1]; exact hk1
    obtain ⟨x, hx, hx'⟩ := get_ex hkv
    obtain ⟨y, hy, hy'⟩ := get_ex hk2
    have lx : x.length = r.rl.ys.length := r5 x (hx' ▸ List.getElem_mem hkv)
    have ly : y.length = r.rh.ys.length := r6 y (hy' ▸ List.getElem_mem hk2)
    have hxy : x.length = y.length := by rw [lx, ly, d2]
    have ex : r.rl.vs.getD k [] = x := by simp [List.getD, hx]
    simp -dsimp [hki]
    repeat' (first | omega | (simp -dsimp [E62, ri, cellp, ints, hki, hk1, hkv, hk2, hx, hx', hy, hy', rwI, roS0]) | (refine Also.intro ?_ fun _ => ?_) | (refine Hold.intro fun _ => ?_) | (refine And.intro ?_ ?_))
    refine awp_loop [87, 88, 89, 90, 91, 92, 95, 96, 97, 98, 99, 100, 101, 102, 103, 104, 105, 106, 107, 108, 109, 110, 111, 112, 113, 2, 93, 94, 4] (fun j : { j : Nat // j ≤ r.rl.ys.length ∧ ∀ i, i < j → r.rl.v k i ≤ r.rh.v k i } => [(4, (true, .int .i64 j.1))]) (fun _ => hps [(6201, roS0 r)] noH) (fun j => r.rl.ys.length - j.1) ⟨0, by omega, fun _ h => by omega⟩ ?_ ?_ ?_
    · simp [okAll, okv]
    · exact (by (try simp -dsimp only [hpush_noH, hpush_hps, hps_over]); refine hle_hps ?_; simp -dsimp [allK, roS0]; repeat' (first | (refine And.intro ?_ ?_) | (refine sLe.same ?_ ?_ <;> (simp; done)) | (refine sLe.clear ?_ ?_ <;> (first | (simp; done) | (simp; omega))) | (refine sLe.drop 1 ?_ ?_ ?_ <;> (simp; done))))
    rintro ⟨j, hj, hin⟩
    dsimp only
    by_cases hj1 : j < r.rl.ys.length
    · have hji : (j : Int) < r.rl.ys.length := by omega
      have wj : IntKind.wrap .i64 ((j : Int) + 1) = (j + 1 : Nat) := wrap_id (by omega) (by omega)
      have hjx : j < x.length := by omega
      have hj2 : j < y.length := by omega
      obtain ⟨p, hp, hp'⟩ := get_ex hjx
      obtain ⟨q, hq, hq'⟩ := get_ex hj2
      have vp : r.rl.v k j = p := by simp [Tb.v, List.getD, hx, hp]
      have vq : r.rh.v k j = q := by simp [Tb.v, List.getD, hy, hq]
      by_cases hc : q < p
      · have hz' : rotE r = 20 := by rw [hz, les_no hkv (by rw [ex]; exact hjx) (by rw [vp, vq]; omega)]; rfl
        simp -dsimp [hji]
        repeat' (first | omega | (simp -dsimp [E62, ri, cellp, ints, hji, hj1, hjx, hj2, hki, hk1, hkv, hk2, hx, hx', hy, hy', hp, hp', hq, hq', hc, hz', rwI, roS0]) | (refine Also.intro ?_ fun _ => ?_) | (refine Hold.intro fun _ => ?_) | (refine And.intro ?_ ?_))
      · simp -dsimp [hji]
        repeat' (first | omega | (simp -dsimp [E62, ri, cellp, ints, hji, hj1, hjx, hj2, hki, hk1, hkv, hk2, hx, hx', hy, hy', hp, hp', hq, hq', hc, wj, rwI, roS0]) | (refine Also.intro ?_ fun _ => ?_) | (refine Hold.intro fun _ => ?_) | (refine And.intro ?_ ?_))
        refine ⟨j + 1, tle_chain rfl ?_, ?_, ⟨by omega, fun i hi => ?_⟩, by omega⟩
        · simp [okAll, okv]
        · exact (by (try simp -dsimp only [hpush_noH, hpush_hps, hps_over]); refine hle_hps ?_; simp -dsimp [allK, roS0]; repeat' (first | (refine And.intro ?_ ?_) | (refine sLe.same ?_ ?_ <;> (simp; done)) | (refine sLe.clear ?_ ?_ <;> (first | (simp; done) | (simp; omega))) | (refine sLe.drop 1 ?_ ?_ ?_ <;> (simp; done))))
        · by_cases hij : i = j
          · subst hij; rw [vp, vq]; omega
          · exact hin i (by omega)
    · have hjn : ¬ (j : Int) < r.rl.ys.length := by omega
      simp -dsimp [hjn]
      repeat' (first | omega | (simp -dsimp [E62, ri, cellp, ints, hjn, wk, roS0]) | (refine Also.intro ?_ fun _ => ?_) | (refine Hold.intro fun _ => ?_) | (refine And.intro ?_ ?_))
      refine ⟨k + 1, tle_kept (kept_upds rfl (kept_forget rfl (kept_upds rfl kept_base))) ?_, ?_, ⟨by omega, fun i hi m hm => ?_⟩, by omega⟩
      · simp [okAll, okv]
      · exact (by (try simp -dsimp only [hpush_noH, hpush_hps, hps_over]); refine hle_hps ?_; simp -dsimp [allK, roS0]; repeat' (first | (refine And.intro ?_ ?_) | (refine sLe.same ?_ ?_ <;> (simp; done)) | (refine sLe.clear ?_ ?_ <;> (first | (simp; done) | (simp; omega))) | (refine sLe.drop 1 ?_ ?_ ?_ <;> (simp; done))))
      · by_cases hik : i = k
        · subst hik; rw [← List.getD_eq_getElem?_getD, ex] at hm; exact hin m (by omega)
        · exact hall i (by omega) m (by rw [List.getD_eq_getElem?_getD]; exact hm)
  · have hkn' : ¬ (k : Int) < r.rl.xs.length := by omega
    have hz' : rotE r = 0 := by rw [hz, les_ok fun i hi j hj => hall i (by omega) j hj]; rfl
    simp -dsimp [hkn']
    repeat' (first | omega | (simp -dsimp [E62, ri, cellp, ints, hkn', hz', roS0]) | (refine Also.intro ?_ fun _ => ?_) | (refine Hold.intro fun _ => ?_) | (refine And.intro ?_ ?_))
theorem ok62 : FnOK Tryz.prog 62 (.pure rotS) := pure_fn (E := E62) rfl (.cons ok95 (.cons ok96 (.cons ok97 .nil))) (ok := []) (fn := Tryz.f62) (by kernel_rfl) (by kernel_rfl) (by kernel_rfl) (by kernel_rfl) rfl (fun _ _ => by simp) b62
end Go.Sx.Rot
end
