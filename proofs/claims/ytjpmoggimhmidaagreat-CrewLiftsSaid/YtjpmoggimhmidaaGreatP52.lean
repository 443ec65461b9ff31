/- CrewLifts' contract. No conditions. -/
import Derived.Test.YtjpmoggimhmidaaGreatP51
set_option linter.unusedSimpArgs false
set_option linter.unusedVariables false
set_option linter.unusedSectionVars false
set_option linter.unusedSimpArgs false
set_option linter.unusedSectionVars false
set_option maxRecDepth 100000
set_option maxHeartbeats 16000000
namespace Go.Sx.Rot
open Go.Proofs Go.Sx Go.Sx.Tab
attribute [local irreducible] HLe
attribute [local simp] hps_app

@[simp] theorem li_len (d : LiD) : d.row.length = 36 := rfl
@[simp] theorem li_take (d : LiD) : d.row.take 36 = d.row := rfl
@[simp] theorem li_r (d : LiD) : d.row.take 26 = d.r.row := rfl
@[simp] theorem li_a (d : LiD) : (d.row.drop 26).take 8 = d.a.row := rfl
@[simp] theorem li_s (d : LiD) : (d.row.drop 34).take 2 = [.int .i64 d.s.lo, .int .i64 d.s.hi] := rfl
@[simp] theorem li_leaf (d : LiD) : d.row.all V.leaf = true := rfl
@[simp] theorem li_cell (d : LiD) : d.row.all V.cell1 = true := rfl
@[simp] theorem li_free (d : LiD) : d.row.all V.refFree = true := rfl
@[simp] theorem li_free1 (d : LiD) : d.row.all V.refFree1 = true := rfl
@[simp] theorem li_lend (h : Hp) (d : LiD) : lends1 h d.row = (True, d.row) := by simp [LiD.row, Ro.row, Ai.row, Sp.row, tabR, ints, lends1, lend1, lendN]
@[simp] theorem li_subs (d : LiD) : subs0 d.row d.row = True := eq_true (subs0_refl _)
theorem LiD.row_inj (a b : LiD) (h : a.row = b.row) : a = b := by
  obtain ⟨a1, a2, a3⟩ := a; obtain ⟨b1, b2, b3⟩ := b
  have h1 := List.append_inj h rfl
  have h2 := List.append_inj h1.2 rfl
  rw [show a1 = b1 from Ro.row_inj _ _ h1.1, show a2 = b2 from Ai.row_inj _ _ h2.1, show a3 = b3 from Sp.row_inj _ _ h2.2]
theorem FrD.row_inj (a b : FrD) (h : a.row = b.row) : a = b := by
  obtain ⟨a1, a2, a3⟩ := a; obtain ⟨b1, b2, b3⟩ := b
  have h1 := List.append_inj h rfl
  have h2 := List.cons.inj h1.2
  have h3 : a2.map Gu.row = b2.map Gu.row := (V.sl.inj h2.1).2
  rw [show a1 = b1 from Ca.row_inj _ _ h1.1, mapRow_inj Gu.row_inj h3, show a3 = b3 from Sp.row_inj _ _ h2.2]
@[simp] def lwA (d : LiD × FrD × Int) : List V := [.agg d.1.row, .agg d.2.1.row, .int .i64 d.2.2]
theorem lwA_inj (a b : LiD × FrD × Int) (h : lwA a = lwA b) : a = b := by
  obtain ⟨a1, a2, a3⟩ := a; obtain ⟨b1, b2, b3⟩ := b
  simp only [lwA, List.cons.injEq, V.agg.injEq, V.int.injEq, true_and, and_true] at h
  rw [LiD.row_inj _ _ h.1, FrD.row_inj _ _ h.2.1, h.2.2]
noncomputable abbrev lwS : PSpec := mkP lwA (fun _ => True) fun _ => .bool true
theorem farR_all {r : Ro} (h : farR r = false) : CrP r := by
  simp only [farR, Bool.or_eq_false_iff] at h
  obtain ⟨h0, h1, h2, h3, h4, h5, h6, h7⟩ := h
  refine ⟨fun x hx => ?_⟩
  simp only [limL, List.mem_cons, List.not_mem_nil, or_false] at hx
  rcases hx with rfl | rfl | rfl | rfl | rfl | rfl | rfl | rfl
  · exact cp_of h0
  · exact cp_of h1
  · exact cp_of h2
  · exact cp_of h3
  · exact cp_of h4
  · exact cp_of h5
  · exact cp_of h6
  · exact cp_of h7
theorem CrP.ro {r : Ro} (h : CrP r) : RoP r := ⟨fun x hx => by
  have := h.l x hx
  exact ⟨by have := this.x; omega, by have := this.y; omega, by have := this.v; omega⟩⟩
theorem lf_dec (d : LiD) (f : FrD) : decC lfA [.agg d.r.row, .agg d.a.row, .agg [.int .i64 d.s.lo, .int .i64 d.s.hi], .agg [.int .i64 f.c.emp, .int .i64 f.c.arm, .sl 2 (f.c.st.map Se.row), .int .i64 f.c.farm, .int .i64 f.c.low, .int .i64 f.c.high], .sl 4 (f.g.map Gu.row), .agg [.int .i64 f.f.lo, .int .i64 f.f.hi]] = (d, f) := decC_eq lfA_inj (d, f)
theorem lf_zero {d : LiD} {f : FrD} (h : lfE d f = 0) : lodE f.c f.g f.f = 0 ∧ mgE (lfM d f) d.s = 0 := by
  unfold lfE at h
  split at h
  · rename_i h1; exact ⟨h1, h⟩
  · exact absurd h (by assumption)
/-- Any number, brought into a span. -/
def atN (w : Sp) (n : Int) : Int := w.lo + (n.tmod (w.hi - w.lo + 1) + (w.hi - w.lo + 1)).tmod (w.hi - w.lo + 1)
structure Wd (w : Sp) (n : Int) (W R Q : Int) : Prop where
  a : -1000000 ≤ w.lo
  b : w.hi ≤ 1000000
  c : W = w.hi - w.lo + 1
  d : 1 ≤ W
  e : R = n.tmod W
  f : -W < R ∧ R < W
  g : Q = (R + W).tmod W
  h : 0 ≤ Q ∧ Q < W
theorem wd_of {w : Sp} (n : Int) (h : spN w = false) : ∃ W R Q, Wd w n W R Q := by
  rw [spN_eq] at h
  simp only [Bool.not_eq_false', decide_eq_true_eq] at h
  have hW : 0 < w.hi - w.lo + 1 := by omega
  refine ⟨_, _, _, h.1, h.2.2, rfl, by omega, rfl, ?_, rfl, ?_⟩
  · have h1 := Int.tmod_lt_of_pos n hW
    have h2 := Int.tmod_lt_of_pos (-n) hW
    rw [Int.neg_tmod] at h2
    omega
  · have h2 := Int.tmod_lt_of_pos (-n) hW
    rw [Int.neg_tmod] at h2
    exact ⟨Int.tmod_nonneg _ (by omega), Int.tmod_lt_of_pos _ hW⟩
theorem mg_span {m : Ma} {s : Sp} (h : mgE m s = 0) : spN m.a.w = false ∧ spN m.a.t = false ∧ spN m.a.h = false ∧ spN m.a.v = false := by
  unfold mgE at h
  split at h
  case isFalse => cases h
  split at h
  case isTrue => cases h
  rename_i h2
  simpa [aiL] using h2
noncomputable abbrev E3 : Env := { P := Tryz.prog, fn := tbl [(4, .pure farrS), (5, .pure fcS), (6, .pure worksS), (7, .pure rcpS), (9, .pure cpcS), (10, .pure glS), (8, .pure lfS), (11, .pure lfS), (12, .pure lddS), (13, .pure valS), (14, .pure mrgS)], own := [], key := 300, nt := 136, frz := [(10, [4])] }
theorem b3 : PureBody E3 [(4, ([], [[0, 1, 2, 3, 4, 5, 6, 7, 8, 9, 10, 11, 12, 13, 14, 15, 16, 17, 18]])), (10, ([1001, 2, 1004, 5, 1007, 8], [[0, 1, 2, 3, 4, 5, 6, 7, 8, 9, 10, 11, 12, 13, 14]])), (14, ([], [[0, 1, 2, 3, 4, 5, 6, 7, 8, 9, 10]]))] Tryz.f3 lwS := by
  refine pb ?_
  rintro ⟨d, f, n⟩ _
  have dr := roE_dec d.r
  have df := fcE_dec f.c f.g
  have dc := caE_dec f.c
  have dg := glE_dec f.g
  have dl := lodE3_dec f.c f.g f.f
  have dF := lf_dec d f
  cases h1 : farR d.r
  case true =>
    simp -dsimp [Tryz.f3, E3, FrD.row, Ca.row, Sp.row]
    repeat' (first | omega | (simp -dsimp [E3, ri, cellp, ints, dr, h1, Ca.row, Sp.row]) | (refine Also.intro ?_ fun _ => ?_) | (refine Hold.intro fun _ => ?_) | (refine And.intro ?_ ?_))
  have hC := farR_all h1
  have hR := hC.ro
  by_cases p1 : 12 < f.c.st.length
  · simp -dsimp [Tryz.f3, E3, FrD.row, Ca.row, Sp.row]
    repeat' (first | omega | (simp -dsimp [E3, ri, cellp, ints, dr, h1, df, p1, Ca.row, Sp.row]) | (refine Also.intro ?_ fun _ => ?_) | (refine Hold.intro fun _ => ?_) | (refine And.intro ?_ ?_))
  by_cases p2 : 12 < f.g.length
  · simp -dsimp [Tryz.f3, E3, FrD.row, Ca.row, Sp.row]
    repeat' (first | omega | (simp -dsimp [E3, ri, cellp, ints, dr, h1, df, p1, p2, Ca.row, Sp.row]) | (refine Also.intro ?_ fun _ => ?_) | (refine Hold.intro fun _ => ?_) | (refine And.intro ?_ ?_))
  have hL : LoP (f.c, f.g, f.f) := ⟨by simp only; omega, by simp only; omega⟩
  have hLf : LfP d f := ⟨hR, hL⟩
  have q1 : f.c.st.length ≤ 1000000 := by omega
  have q2 : f.g.length ≤ 1000000 := by omega
  by_cases he : lfE d f = 0
  case neg =>
    simp -dsimp [Tryz.f3, E3, FrD.row, Ca.row, Sp.row]
    repeat' (first | omega | (simp -dsimp [E3, ri, cellp, ints, dr, h1, df, p1, p2, dc, dg, dF, hC, hLf, q1, q2, he, Ca.row, Sp.row, FreeAt, FzOk]) | (refine Also.intro ?_ fun _ => ?_) | (refine Hold.intro fun _ => ?_) | (refine And.intro ?_ ?_))
  obtain ⟨z1, z2⟩ := lf_zero he
  have hV : lfV d f = mgnF (lfM d f) d.s := if_pos he
  have hw : spN (lfM d f).a.w = false := (mg_span z2).1
  have hw' : spN (lddO f.c f.g f.f) = false := hw
  obtain ⟨W, R, Q, hW⟩ := wd_of n hw'
  have wa := hW.a; have wb := hW.b; have wc := hW.c; have wd := hW.d; have we := hW.e; have wf := hW.f; have wg := hW.g; have wh := hW.h
  have dv := spE_dec (lddO f.c f.g f.f)
  generalize hw0 : lddO f.c f.g f.f = w at *
  have w1 : IntKind.wrap .i64 (w.hi - w.lo) = w.hi - w.lo := wrap_id (by omega) (by omega)
  have w2 : IntKind.wrap .i64 (w.hi - w.lo + 1) = W := by rw [wrap_id (by omega) (by omega), wc]
  have w3 : n.tmod W = R := we.symm
  have w4 : IntKind.wrap .i64 (R + W) = R + W := wrap_id (by omega) (by omega)
  have w5 : (R + W).tmod W = Q := wg.symm
  have w6 : IntKind.wrap .i64 (w.lo + Q) = w.lo + Q := wrap_id (by omega) (by omega)
  have wn : (W = 0) = False := eq_false (by omega)
  have hp := mg_part (r := d.r) (a := (lfM d f).a) (a' := { d.a with w := ⟨w.lo + Q, w.lo + Q⟩ }) (s := d.s) z2
    ⟨⟨by show (lddO f.c f.g f.f).lo ≤ w.lo + Q; rw [hw0]; omega, Int.le_refl _, by show w.lo + Q ≤ (lddO f.c f.g f.f).hi; rw [hw0]; omega⟩, .refl (mg_span z2).2.1, .refl (mg_span z2).2.2.1, .refl (mg_span z2).2.2.2⟩
  obtain ⟨m1, m2⟩ := hp
  have dm := mrE_dec ⟨d.r, { d.a with w := ⟨w.lo + Q, w.lo + Q⟩ }⟩ d.s
  have m2' : mgnF (lfM d f) d.s ≤ mgnF ⟨d.r, { d.a with w := ⟨w.lo + Q, w.lo + Q⟩ }⟩ d.s := m2
  have m3 := eq_true m2'
  simp -dsimp [Tryz.f3, E3, FrD.row, Ca.row, Sp.row]
  repeat' (first | omega | (simp -dsimp [E3, ri, cellp, ints, dr, h1, df, p1, p2, dc, dg, dF, hC, hLf, q1, q2, he, Ca.row, Sp.row, FreeAt, FzOk, dl, z1, z2, hV, hw', dv, w1, w2, w3, w4, w5, w6, wn, dm, m1, m3, hw0, hR, hL]) | (refine Also.intro ?_ fun _ => ?_) | (refine Hold.intro fun _ => ?_) | (refine And.intro ?_ ?_))
theorem ok3 : FnOK Tryz.prog 3 (.pure lwS) := pure_fn (E := E3) rfl (.cons ok4 (.cons ok5 (.cons ok6 (.cons ok7 (.cons ok9 (.cons ok10 (.cons ok8 (.cons ok11 (.cons ok12 (.cons ok13 (.cons ok14 .nil))))))))))) (ok := [(4, ([], [[0, 1, 2, 3, 4, 5, 6, 7, 8, 9, 10, 11, 12, 13, 14, 15, 16, 17, 18]])), (10, ([1001, 2, 1004, 5, 1007, 8], [[0, 1, 2, 3, 4, 5, 6, 7, 8, 9, 10, 11, 12, 13, 14]])), (14, ([], [[0, 1, 2, 3, 4, 5, 6, 7, 8, 9, 10]]))]) (fn := Tryz.f3) (by kernel_rfl) (by kernel_rfl) (by kernel_rfl) (by kernel_rfl) rfl (fun _ _ => by simp) b3
end Go.Sx.Rot

