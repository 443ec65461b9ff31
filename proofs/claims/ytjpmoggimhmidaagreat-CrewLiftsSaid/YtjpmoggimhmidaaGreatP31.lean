/- A part of a proof; no conditions. -/
import Derived.Test.YtjpmoggimhmidaaGreatP30
set_option linter.unusedSimpArgs false
set_option linter.unusedVariables false
set_option linter.unusedSectionVars false
section
/- Rotor: the cells of a rotor in an air; the tables of a machine; what it needs. No conditions. -/
set_option linter.unusedSimpArgs false
set_option linter.unusedSectionVars false
set_option maxRecDepth 100000
set_option maxHeartbeats 4000000
namespace Go.Sx.Rot
open Go.Proofs Go.Sx Go.Sx.Tab
attribute [local irreducible] HLe
attribute [local simp] hps_app

structure Ro where
  h : Tb
  g : Tb
  l : Tb
  p : Tb
  n : Tb
  rl : Tb
  rh : Tb
  gl : Tb
  climb : Int
  burn : Int
  deriving Inhabited
def Ro.row (r : Ro) : List V := tabR r.h ++ tabR r.g ++ tabR r.l ++ tabR r.p ++ tabR r.n ++ tabR r.rl ++ tabR r.rh ++ tabR r.gl ++ [.int .i64 r.climb, .int .i64 r.burn]
theorem tabR_app {a b : Tb} {x y : List V} (h : tabR a ++ x = tabR b ++ y) : a = b ∧ x = y := by
  have := List.append_inj h rfl
  exact ⟨tabR_inj _ _ this.1, this.2⟩
theorem Ro.row_inj (a b : Ro) (h : a.row = b.row) : a = b := by
  obtain ⟨a0, a1, a2, a3, a4, a5, a6, a7, a8, a9⟩ := a; obtain ⟨b0, b1, b2, b3, b4, b5, b6, b7, b8, b9⟩ := b
  simp only [Ro.row, List.append_assoc] at h
  obtain ⟨e0, h⟩ := tabR_app h
  obtain ⟨e1, h⟩ := tabR_app h
  obtain ⟨e2, h⟩ := tabR_app h
  obtain ⟨e3, h⟩ := tabR_app h
  obtain ⟨e4, h⟩ := tabR_app h
  obtain ⟨e5, h⟩ := tabR_app h
  obtain ⟨e6, h⟩ := tabR_app h
  obtain ⟨e7, h⟩ := tabR_app h
  simp only [List.cons.injEq, V.int.injEq, true_and, and_true] at h
  rw [e0, e1, e2, e3, e4, e5, e6, e7, h.1, h.2]
structure Ai where
  w : Sp
  t : Sp
  h : Sp
  v : Sp
  deriving Inhabited
def Ai.row (a : Ai) : List V := [.int .i64 a.w.lo, .int .i64 a.w.hi, .int .i64 a.t.lo, .int .i64 a.t.hi, .int .i64 a.h.lo, .int .i64 a.h.hi, .int .i64 a.v.lo, .int .i64 a.v.hi]
theorem Ai.row_inj (a b : Ai) (h : a.row = b.row) : a = b := by
  obtain ⟨⟨_, _⟩, ⟨_, _⟩, ⟨_, _⟩, ⟨_, _⟩⟩ := a; obtain ⟨⟨_, _⟩, ⟨_, _⟩, ⟨_, _⟩, ⟨_, _⟩⟩ := b
  simp only [Ai.row, List.cons.injEq, V.int.injEq, true_and, and_true] at h
  obtain ⟨rfl, rfl, rfl, rfl, rfl, rfl, rfl, rfl⟩ := h; rfl
structure Ma where
  r : Ro
  a : Ai
  deriving Inhabited
def Ma.row (m : Ma) : List V := m.r.row ++ m.a.row
theorem Ro.row_len (r : Ro) : r.row.length = 26 := rfl
theorem Ma.row_inj (a b : Ma) (h : a.row = b.row) : a = b := by
  obtain ⟨a1, a2⟩ := a; obtain ⟨b1, b2⟩ := b
  have := List.append_inj h rfl
  rw [show a1 = b1 from Ro.row_inj _ _ this.1, show a2 = b2 from Ai.row_inj _ _ this.2]
@[simp] theorem ro_len (r : Ro) : r.row.length = 26 := rfl
@[simp] theorem ma_len (m : Ma) : m.row.length = 34 := rfl
@[simp] theorem ai_len (a : Ai) : a.row.length = 8 := rfl
@[simp] theorem ro_take (r : Ro) : r.row.take 26 = r.row := rfl
@[simp] theorem ma_take (m : Ma) : m.row.take 34 = m.row := rfl
@[simp] theorem ai_take (a : Ai) : a.row.take 8 = a.row := rfl
@[simp] theorem ma_r (m : Ma) : m.row.take 26 = m.r.row := rfl
@[simp] theorem ma_a (m : Ma) : (m.row.drop 26).take 8 = m.a.row := rfl
@[simp] theorem ma_a' (m : Ma) : m.row.drop 26 = m.a.row := rfl
@[simp] theorem ma_h (m : Ma) : m.row.take 3 = [ints m.r.h.xs, ints m.r.h.ys, .sl 1 (m.r.h.vs.map rwI)] := rfl
@[simp] theorem ma_g (m : Ma) : (m.row.drop 3).take 3 = [ints m.r.g.xs, ints m.r.g.ys, .sl 1 (m.r.g.vs.map rwI)] := rfl
@[simp] theorem ma_p (m : Ma) : (m.row.drop 9).take 3 = [ints m.r.p.xs, ints m.r.p.ys, .sl 1 (m.r.p.vs.map rwI)] := rfl
@[simp] theorem ma_w (m : Ma) : (m.row.drop 26).take 2 = [.int .i64 m.a.w.lo, .int .i64 m.a.w.hi] := rfl
@[simp] theorem ma_t (m : Ma) : (m.row.drop 28).take 2 = [.int .i64 m.a.t.lo, .int .i64 m.a.t.hi] := rfl
@[simp] theorem ma_hh (m : Ma) : (m.row.drop 30).take 2 = [.int .i64 m.a.h.lo, .int .i64 m.a.h.hi] := rfl
@[simp] theorem ma_v (m : Ma) : (m.row.drop 32).take 2 = [.int .i64 m.a.v.lo, .int .i64 m.a.v.hi] := rfl
@[simp] theorem ai_w (a : Ai) : a.row.take 2 = [.int .i64 a.w.lo, .int .i64 a.w.hi] := rfl
@[simp] theorem ai_t (a : Ai) : (a.row.drop 2).take 2 = [.int .i64 a.t.lo, .int .i64 a.t.hi] := rfl
@[simp] theorem ai_h (a : Ai) : (a.row.drop 4).take 2 = [.int .i64 a.h.lo, .int .i64 a.h.hi] := rfl
@[simp] theorem ai_v (a : Ai) : (a.row.drop 6).take 2 = [.int .i64 a.v.lo, .int .i64 a.v.hi] := rfl
@[simp] theorem ro_h (r : Ro) : r.row.take 3 = [ints r.h.xs, ints r.h.ys, .sl 1 (r.h.vs.map rwI)] := rfl
@[simp] theorem ro_g (r : Ro) : (r.row.drop 3).take 3 = [ints r.g.xs, ints r.g.ys, .sl 1 (r.g.vs.map rwI)] := rfl
@[simp] theorem ro_l (r : Ro) : (r.row.drop 6).take 3 = [ints r.l.xs, ints r.l.ys, .sl 1 (r.l.vs.map rwI)] := rfl
@[simp] theorem ro_p (r : Ro) : (r.row.drop 9).take 3 = [ints r.p.xs, ints r.p.ys, .sl 1 (r.p.vs.map rwI)] := rfl
@[simp] theorem ro_n (r : Ro) : (r.row.drop 12).take 3 = [ints r.n.xs, ints r.n.ys, .sl 1 (r.n.vs.map rwI)] := rfl
@[simp] theorem ro_rl (r : Ro) : (r.row.drop 15).take 3 = [ints r.rl.xs, ints r.rl.ys, .sl 1 (r.rl.vs.map rwI)] := rfl
@[simp] theorem ro_rh (r : Ro) : (r.row.drop 18).take 3 = [ints r.rh.xs, ints r.rh.ys, .sl 1 (r.rh.vs.map rwI)] := rfl
@[simp] theorem ro_gl (r : Ro) : (r.row.drop 21).take 3 = [ints r.gl.xs, ints r.gl.ys, .sl 1 (r.gl.vs.map rwI)] := rfl
@[simp] theorem ro_24 (r : Ro) : r.row[24]? = some (.int .i64 r.climb) := rfl
@[simp] theorem ro_25 (r : Ro) : r.row[25]? = some (.int .i64 r.burn) := rfl
theorem subs0_refl : ∀ l : List V, subs0 l l
  | [] => trivial
  | x :: l => ⟨by cases x <;> simp [sub0], subs0_refl l⟩
@[simp] theorem ma_leaf (m : Ma) : m.row.all V.leaf = true := rfl
@[simp] theorem ma_cell (m : Ma) : m.row.all V.cell1 = true := rfl
@[simp] theorem ma_free (m : Ma) : m.row.all V.refFree = true := rfl
@[simp] theorem ma_free1 (m : Ma) : m.row.all V.refFree1 = true := rfl
@[simp] theorem ma_lend (h : Hp) (m : Ma) : lends1 h m.row = (True, m.row) := by simp [Ma.row, Ro.row, Ai.row, tabR, ints, lends1, lend1, lendN]
@[simp] theorem ma_subs (m : Ma) : subs0 m.row m.row = True := eq_true (subs0_refl _)
@[simp] theorem ro_leaf (r : Ro) : r.row.all V.leaf = true := rfl
@[simp] theorem ro_cell (r : Ro) : r.row.all V.cell1 = true := rfl
@[simp] theorem ro_free (r : Ro) : r.row.all V.refFree = true := rfl
@[simp] theorem ro_free1 (r : Ro) : r.row.all V.refFree1 = true := rfl
@[simp] theorem ro_lend (h : Hp) (r : Ro) : lends1 h r.row = (True, r.row) := by simp [Ro.row, tabR, ints, lends1, lend1, lendN]
@[simp] theorem ro_subs (r : Ro) : subs0 r.row r.row = True := eq_true (subs0_refl _)
@[simp] theorem ai_leaf (a : Ai) : a.row.all V.leaf = true := rfl
@[simp] theorem ai_cell (a : Ai) : a.row.all V.cell1 = true := rfl
@[simp] theorem ai_free (a : Ai) : a.row.all V.refFree = true := rfl
@[simp] theorem ai_free1 (a : Ai) : a.row.all V.refFree1 = true := rfl
@[simp] theorem ai_lend (h : Hp) (a : Ai) : lends1 h a.row = (True, a.row) := by simp [Ai.row, lends1, lend1, lendN]
@[simp] theorem ai_subs (a : Ai) : subs0 a.row a.row = True := eq_true (subs0_refl _)

/-! the tables of a machine -/
@[simp] def maE (m : Ma) : List V := [.agg m.row]
theorem maE_inj (a b : Ma) (h : maE a = maE b) : a = b := Ma.row_inj _ _ (by simpa using h)
theorem maE_dec (m : Ma) : decC maE [.agg m.row] = m := decC_eq maE_inj m
@[simp] def mbE (d : Ma × Sp) : List V := [.agg d.1.row, .agg d.2.row]
theorem mbE_inj (a b : Ma × Sp) (h : mbE a = mbE b) : a = b := by
  obtain ⟨a1, a2⟩ := a; obtain ⟨b1, b2⟩ := b
  simp only [mbE, List.cons.injEq, V.agg.injEq, and_true] at h
  rw [Ma.row_inj _ _ h.1, Sp.row_inj _ _ h.2]
theorem mbE_dec (m : Ma) (s : Sp) : decC mbE [.agg m.row, .agg [.int .i64 s.lo, .int .i64 s.hi]] = (m, s) := decC_eq mbE_inj (m, s)
def hovD (m : Ma) : BdD := ⟨m.r.h, m.a.w, m.a.t⟩
def groD (m : Ma) (s : Sp) : BdD := ⟨m.r.g, s, m.a.v⟩
def powD (m : Ma) : BdD := ⟨m.r.p, m.a.t, m.a.h⟩
noncomputable abbrev hovS : PSpec := mkP maE (fun _ => True) fun m => .agg (lkR (hovD m))
noncomputable abbrev groS : PSpec := mkP mbE (fun _ => True) fun d => .agg (lkR (groD d.1 d.2))
noncomputable abbrev powS : PSpec := mkP maE (fun _ => True) fun m => .agg (lkR (powD m))
noncomputable abbrev E44 : Env := { P := Tryz.prog, fn := tbl [], own := [], key := 4400, nt := 13 }
theorem b44 : PureBody E44 [] Tryz.f44 hovS := by
  refine pb ?_
  rintro m _
  simp -dsimp [Tryz.f44, E44]
  repeat' (first | omega | (simp -dsimp [E44, ri, cellp, ints, lkR, hovD]) | (refine Also.intro ?_ fun _ => ?_) | (refine Hold.intro fun _ => ?_) | (refine And.intro ?_ ?_))
theorem ok44 : FnOK Tryz.prog 44 (.pure hovS) := pure_fn (E := E44) rfl LOK.nil (ok := []) (fn := Tryz.f44) (by kernel_rfl) (by kernel_rfl) (by kernel_rfl) (by kernel_rfl) rfl (fun _ _ => by simp) b44
noncomputable abbrev E45 : Env := { P := Tryz.prog, fn := tbl [], own := [], key := 4500, nt := 13 }
theorem b45 : PureBody E45 [] Tryz.f45 groS := by
  refine pb ?_
  rintro ⟨m, s⟩ _
  simp -dsimp [Tryz.f45, E45, Sp.row]
  repeat' (first | omega | (simp -dsimp [E45, ri, cellp, ints, lkR, groD, Sp.row]) | (refine Also.intro ?_ fun _ => ?_) | (refine Hold.intro fun _ => ?_) | (refine And.intro ?_ ?_))
theorem ok45 : FnOK Tryz.prog 45 (.pure groS) := pure_fn (E := E45) rfl LOK.nil (ok := []) (fn := Tryz.f45) (by kernel_rfl) (by kernel_rfl) (by kernel_rfl) (by kernel_rfl) rfl (fun _ _ => by simp) b45
noncomputable abbrev E46 : Env := { P := Tryz.prog, fn := tbl [], own := [], key := 4600, nt := 13 }
theorem b46 : PureBody E46 [] Tryz.f46 powS := by
  refine pb ?_
  rintro m _
  simp -dsimp [Tryz.f46, E46]
  repeat' (first | omega | (simp -dsimp [E46, ri, cellp, ints, lkR, powD]) | (refine Also.intro ?_ fun _ => ?_) | (refine Hold.intro fun _ => ?_) | (refine And.intro ?_ ?_))
theorem ok46 : FnOK Tryz.prog 46 (.pure powS) := pure_fn (E := E46) rfl LOK.nil (ok := []) (fn := Tryz.f46) (by kernel_rfl) (by kernel_rfl) (by kernel_rfl) (by kernel_rfl) rfl (fun _ _ => by simp) b46
end Go.Sx.Rot
end
section
/- Plain: Bound lies within the values of the table. No conditions. -/
set_option linter.unusedSimpArgs false
set_option linter.unusedVariables false
namespace Go.Sx.Rot
open Go.Sx Go.Sx.Tab

def Vin (t : Tb) (L H : Int) : Prop := ∀ i k, i < t.xs.length → k < t.ys.length → L ≤ t.v i k ∧ t.v i k ≤ H
theorem mul3 {a b c : Int} (ha : 0 ≤ a) (hb : 0 ≤ b) (hc : 0 ≤ c) : 0 ≤ a * b * c := Int.mul_nonneg (Int.mul_nonneg ha hb) hc
theorem num_ge {t : Tb} {L H : Int} (hv : Vin t L H) {i k : Nat} {x y : Int} (hi : inC t.xs i x) (hk : inC t.ys k y) : L * t.den i k ≤ t.num i k x y ∧ t.num i k x y ≤ H * t.den i k := by
  obtain ⟨i1, i2, i3⟩ := hi
  obtain ⟨k1, k2, k3⟩ := hk
  have v00 := hv i k (by omega) (by omega)
  have v10 := hv (i + 1) k (by omega) (by omega)
  have v01 := hv i (k + 1) (by omega) (by omega)
  have v11 := hv (i + 1) (k + 1) (by omega) (by omega)
  simp only [Tb.num, Tb.den]
  generalize t.v i k = a at *
  generalize t.v (i + 1) k = b at *
  generalize t.v i (k + 1) = c at *
  generalize t.v (i + 1) (k + 1) = d at *
  generalize t.xs.getD (i + 1) 0 = X at *
  generalize t.xs.getD i 0 = x0 at *
  generalize t.ys.getD (k + 1) 0 = Y at *
  generalize t.ys.getD k 0 = y0 at *
  constructor
  · have p1 := mul3 (a := X - x) (b := Y - y) (c := a - L) (by omega) (by omega) (by omega)
    have p2 := mul3 (a := x - x0) (b := Y - y) (c := b - L) (by omega) (by omega) (by omega)
    have p3 := mul3 (a := X - x) (b := y - y0) (c := c - L) (by omega) (by omega) (by omega)
    have p4 := mul3 (a := x - x0) (b := y - y0) (c := d - L) (by omega) (by omega) (by omega)
    have e : (X - x) * (Y - y) * a + (x - x0) * (Y - y) * b + (X - x) * (y - y0) * c + (x - x0) * (y - y0) * d - L * ((X - x0) * (Y - y0)) = (X - x) * (Y - y) * (a - L) + (x - x0) * (Y - y) * (b - L) + (X - x) * (y - y0) * (c - L) + (x - x0) * (y - y0) * (d - L) := by grind
    omega
  · have p1 := mul3 (a := X - x) (b := Y - y) (c := H - a) (by omega) (by omega) (by omega)
    have p2 := mul3 (a := x - x0) (b := Y - y) (c := H - b) (by omega) (by omega) (by omega)
    have p3 := mul3 (a := X - x) (b := y - y0) (c := H - c) (by omega) (by omega) (by omega)
    have p4 := mul3 (a := x - x0) (b := y - y0) (c := H - d) (by omega) (by omega) (by omega)
    have e : H * ((X - x0) * (Y - y0)) - ((X - x) * (Y - y) * a + (x - x0) * (Y - y) * b + (X - x) * (y - y0) * c + (x - x0) * (y - y0) * d) = (X - x) * (Y - y) * (H - a) + (x - x0) * (Y - y) * (H - b) + (X - x) * (y - y0) * (H - c) + (x - x0) * (y - y0) * (H - d) := by grind
    omega
theorem bound_vals {d : BdD} {L H : Int} (h : bdErr d = 0) (hv : Vin d.t L H) : L ≤ (boundF d).lo ∧ (boundF d).hi ≤ H := by
  obtain ⟨vl, vm⟩ := exR_va h
  obtain ⟨m1, m2⟩ := exRun_mem ((cnL d).map (pqAt d.t)) exS0 (.inr fun e => cnL_ne d (by simpa using e))
  constructor
  · rcases m1 with m1 | ⟨m1, _⟩
    · obtain ⟨⟨p, q⟩, hp, e⟩ := List.mem_map.1 m1
      obtain ⟨c1, c2, c3, c4⟩ := corner_in h hp
      simp only at c1 c2 c3 c4
      obtain ⟨i, k, hi, hk, e2, _⟩ := at_in h c1 c2 c3 c4
      have hg := (num_ge hv hi hk).1
      have e3 : (exR d).le.v = (d.t.num i k p q, d.t.den i k) := by
        show (exRun exS0 ((cnL d).map (pqAt d.t))).le.v = _
        rw [← e]; exact e2
      have w := vl.w1
      refine (Int.le_ediv_iff_mul_le (show 0 < (exR d).le.d from w)).2 ?_
      have e4 : (exR d).le.n = d.t.num i k p q := congrArg Prod.fst e3
      have e5 : (exR d).le.d = d.t.den i k := congrArg Prod.snd e3
      rw [e4, e5]; exact hg
    · cases m1
  · rcases m2 with m2 | ⟨m2, _⟩
    · obtain ⟨⟨p, q⟩, hp, e⟩ := List.mem_map.1 m2
      obtain ⟨c1, c2, c3, c4⟩ := corner_in h hp
      simp only at c1 c2 c3 c4
      obtain ⟨i, k, hi, hk, e2, _⟩ := at_in h c1 c2 c3 c4
      have hg := (num_ge hv hi hk).2
      have e3 : (exR d).mo.v = (d.t.num i k p q, d.t.den i k) := by
        show (exRun exS0 ((cnL d).map (pqAt d.t))).mo.v = _
        rw [← e]; exact e2
      have w := vm.w1
      have e4 : (exR d).mo.n = d.t.num i k p q := congrArg Prod.fst e3
      have e5 : (exR d).mo.d = d.t.den i k := congrArg Prod.snd e3
      have : -H ≤ -(exR d).mo.n / (exR d).mo.d := by
        refine (Int.le_ediv_iff_mul_le (show 0 < (exR d).mo.d from w)).2 ?_
        rw [e4, e5, Int.neg_mul]; omega
      show -(-(exR d).mo.n / (exR d).mo.d) ≤ _
      omega
    · cases m2
theorem bound_le {d : BdD} (h : bdErr d = 0) : (boundF d).lo ≤ (boundF d).hi := by
  obtain ⟨_, ⟨_, ha, _⟩, ⟨_, hb, _⟩, _⟩ := bdErr_ok h
  obtain ⟨i, k, hi, hk, e, hva⟩ := at_in h (x := d.a.lo) (y := d.b.lo) (by omega) ha (by omega) hb
  obtain ⟨g1, g2⟩ := bound_pt h (x := d.a.lo) (y := d.b.lo) (by omega) ha (by omega) hb
  have g1 := g1 i k hi hk
  have g2 := g2 i k hi hk
  obtain ⟨ht, _⟩ := bdErr_ok h
  obtain ⟨hax, hay, _⟩ := tbB_facts ht
  have hp := Tb.den_pos (axB_asc hax) (axB_asc hay) hi hk
  have : d.t.den i k * (boundF d).lo ≤ d.t.den i k * (boundF d).hi := by rw [Int.mul_comm, Int.mul_comm _ (boundF d).hi]; omega
  exact le_of_mul hp this
/-- What a right limit says of the values. -/
theorem limB_vin {l : Lim} (h : limB l = true) : Vin l.t l.lo l.hi := by
  simp only [limB, Bool.and_eq_true, Bool.not_eq_true', List.any_eq_false] at h
  obtain ⟨ht, hv⟩ := h
  have hl := tbB_len ht
  have hr := tbB_rows ht
  intro i k hi hk
  have hi' : i < l.t.vs.length := by omega
  have := hv _ (List.getElem_mem hi')
  simp only [rowBey, Bool.not_eq_true, List.any_eq_false] at this
  have hkr : k < (l.t.vs[i]).length := by rw [hr _ (List.getElem_mem hi')]; exact hk
  have := this _ (List.getElem_mem hkr)
  have e : l.t.v i k = (l.t.vs[i])[k] := by simp [Tb.v, List.getD, hi', hkr]
  rw [e]
  simpa [beyP, withinB] using this
end Go.Sx.Rot
end
section
/- Rotor: what is needed in hover, the margin. No conditions. -/
set_option linter.unusedSimpArgs false
set_option linter.unusedSectionVars false
set_option maxRecDepth 100000
set_option maxHeartbeats 4000000
namespace Go.Sx.Rot
open Go.Proofs Go.Sx Go.Sx.Tab
attribute [local irreducible] HLe
attribute [local simp] hps_app

theorem mulB {a b : Int} (h1 : -1000000 ≤ a) (h2 : a ≤ 1000000) (h3 : -1000000 ≤ b) (h4 : b ≤ 1000000) : -1000000000000 ≤ a * b ∧ a * b ≤ 1000000000000 := by
  have h : (a * b).natAbs ≤ 1000000 * 1000000 := by rw [Int.natAbs_mul]; exact Nat.mul_le_mul (by omega) (by omega)
  omega
theorem tdB {n : Int} (h1 : -2000000000000 ≤ n) (h2 : n ≤ 2000000000000) : -2000000000000 ≤ n.tdiv 100 ∧ n.tdiv 100 ≤ 2000000000000 := by
  have h : (n.tdiv 100).natAbs ≤ n.natAbs := by rw [Int.natAbs_tdiv]; exact Nat.div_le_self _ _
  omega
structure Sm (s : Sp) : Prop where
  a : -1000000 ≤ s.lo
  b : s.lo ≤ 1000000
  c : -1000000 ≤ s.hi
  d : s.hi ≤ 1000000
def needF (m : Ma) (s : Sp) : Sp := ⟨((bndF (hovD m)).lo * (bndF (groD m s)).lo).tdiv 100, ((bndF (hovD m)).hi * (bndF (groD m s)).hi + 99).tdiv 100⟩
structure NeP (d : Ma × Sp) : Prop where
  h : TbP d.1.r.h
  g : TbP d.1.r.g
  p : TbP d.1.r.p
  bh : Sm (bndF (hovD d.1))
  bg : Sm (bndF (groD d.1 d.2))
  bp : Sm (bndF (powD d.1))
noncomputable abbrev neeS : PSpec := mkP mbE NeP fun d => .agg (needF d.1 d.2).row
theorem hov_dec (m : Ma) : decC lkE [.agg (lkR (hovD m))] = hovD m := decC_eq lkE_inj _
theorem gro_dec (m : Ma) (s : Sp) : decC lkE [.agg (lkR (groD m s))] = groD m s := decC_eq lkE_inj _
theorem pow_dec (m : Ma) : decC lkE [.agg (lkR (powD m))] = powD m := decC_eq lkE_inj _
@[simp] theorem lk_leaf (d : BdD) : (lkR d).all V.leaf = true := rfl
@[simp] theorem lk_cell (d : BdD) : (lkR d).all V.cell1 = true := rfl
@[simp] theorem lk_free (d : BdD) : (lkR d).all V.refFree = true := rfl
@[simp] theorem lk_free1 (d : BdD) : (lkR d).all V.refFree1 = true := rfl
@[simp] theorem lk_len (d : BdD) : (lkR d).length = 7 := rfl
@[simp] theorem lk_take (d : BdD) : (lkR d).take 7 = lkR d := rfl
@[simp] theorem lk_lend (h : Hp) (d : BdD) : lends1 h (lkR d) = (True, lkR d) := by simp [lkR, ints, lends1, lend1, lendN]
@[simp] theorem lk_subs (d : BdD) : subs0 (lkR d) (lkR d) = True := eq_true (subs0_refl _)
noncomputable abbrev E48 : Env := { P := Tryz.prog, fn := tbl [(44, .pure hovS), (45, .pure groS), (47, .pure bnS)], own := [], key := 4800, nt := 28, frz := [(1, [2, 3, 50002, 50003])] }
theorem b48 : PureBody E48 [(1, ([0, 1, 2, 3, 4, 5, 6], [[0, 1, 2, 3, 4, 5, 6, 7, 8, 9, 10]]))] Tryz.f48 neeS := by
  refine pb ?_
  rintro ⟨m, s⟩ ⟨h1, h2, _, b1, b2, _⟩
  simp only at h1 h2 b1 b2
  have h1' : TbP (hovD m).t := h1
  have h2' : TbP (groD m s).t := h2
  have hN : needF m s = ⟨((bndF (hovD m)).lo * (bndF (groD m s)).lo).tdiv 100, ((bndF (hovD m)).hi * (bndF (groD m s)).hi + 99).tdiv 100⟩ := rfl
  have d1 := maE_dec m
  have d2 := mbE_dec m s
  have d3 := hov_dec m
  have d4 := gro_dec m s
  have p1 := mulB b1.a b1.b b2.a b2.b
  have p2 := mulB b1.c b1.d b2.c b2.d
  rcases hp : bndF (hovD m) with ⟨pl, ph⟩
  rcases hq : bndF (groD m s) with ⟨ql, qh⟩
  rw [hp, hq] at p1 p2 hN
  simp only at p1 p2 hN
  have t1 := tdB (n := pl * ql) (by omega) (by omega)
  have t2 := tdB (n := ph * qh + 99) (by omega) (by omega)
  have w1 : IntKind.wrap .i64 (pl * ql) = pl * ql := wrap_id (by omega) (by omega)
  have w2 : IntKind.wrap .i64 (ph * qh) = ph * qh := wrap_id (by omega) (by omega)
  have w3 : IntKind.wrap .i64 (ph * qh + 99) = ph * qh + 99 := wrap_id (by omega) (by omega)
  have w4 : IntKind.wrap .i64 ((pl * ql).tdiv 100) = (pl * ql).tdiv 100 := wrap_id (by omega) (by omega)
  have w5 : IntKind.wrap .i64 ((ph * qh + 99).tdiv 100) = (ph * qh + 99).tdiv 100 := wrap_id (by omega) (by omega)
  simp -dsimp [Tryz.f48, E48, Sp.row]
  repeat' (first | omega | (simp -dsimp [E48, ri, cellp, ints, Sp.row, h1', h2', d1, d2, d3, d4, hp, hq, w1, w2, w3, w4, w5, hN, FreeAt, FoOk]) | (refine Also.intro ?_ fun _ => ?_) | (refine Hold.intro fun _ => ?_) | (refine And.intro ?_ ?_))
theorem ok48 : FnOK Tryz.prog 48 (.pure neeS) := pure_fn (E := E48) rfl (.cons ok44 (.cons ok45 (.cons ok47 .nil))) (ok := [(1, ([0, 1, 2, 3, 4, 5, 6], [[0, 1, 2, 3, 4, 5, 6, 7, 8, 9, 10]]))]) (fn := Tryz.f48) (by kernel_rfl) (by kernel_rfl) (by kernel_rfl) (by kernel_rfl) rfl (fun _ _ => by simp) b48
end Go.Sx.Rot
end
section
/- Rotor: the margin, the tables of a margin, equal lists. No conditions. -/
set_option linter.unusedSimpArgs false
set_option linter.unusedSectionVars false
set_option maxRecDepth 100000
set_option maxHeartbeats 4000000
namespace Go.Sx.Rot
open Go.Proofs Go.Sx Go.Sx.Tab
attribute [local irreducible] HLe
attribute [local simp] hps_app

def mgnF (m : Ma) (s : Sp) : Int := (bndF (powD m)).lo - (needF m s).hi
noncomputable abbrev mgnS : PSpec := mkP mbE NeP fun d => .int .i64 (mgnF d.1 d.2)
noncomputable abbrev E27 : Env := { P := Tryz.prog, fn := tbl [(46, .pure powS), (47, .pure bnS), (48, .pure neeS)], own := [], key := 2700, nt := 14, frz := [(1, [2, 3, 50002, 50003])] }
theorem b27 : PureBody E27 [] Tryz.f27 mgnS := by
  refine pb ?_
  rintro ⟨m, s⟩ hP
  have h3' : TbP (powD m).t := hP.p
  have d1 := maE_dec m
  have d2 := mbE_dec m s
  have d5 := pow_dec m
  have b := hP.bp
  have hM : mgnF m s = (bndF (powD m)).lo - (needF m s).hi := rfl
  have hw : -3000000000000 ≤ (needF m s).hi ∧ (needF m s).hi ≤ 3000000000000 := by
    have p2 := mulB hP.bh.c hP.bh.d hP.bg.c hP.bg.d
    have := tdB (n := (bndF (hovD m)).hi * (bndF (groD m s)).hi + 99) (by simp only at p2 ⊢; omega) (by simp only at p2 ⊢; omega)
    simp only [needF]; omega
  have ba : -1000000 ≤ (bndF (powD m)).lo := b.a
  have bb : (bndF (powD m)).lo ≤ 1000000 := b.b
  have w1 : IntKind.wrap .i64 ((bndF (powD m)).lo - (needF m s).hi) = (bndF (powD m)).lo - (needF m s).hi := wrap_id (by omega) (by omega)
  simp -dsimp [Tryz.f27, E27, Sp.row]
  repeat' (first | omega | (simp -dsimp [E27, ri, cellp, ints, Sp.row, hP, h3', d1, d2, d5, w1, hM]) | (refine Also.intro ?_ fun _ => ?_) | (refine Hold.intro fun _ => ?_) | (refine And.intro ?_ ?_))
theorem ok27 : FnOK Tryz.prog 27 (.pure mgnS) := pure_fn (E := E27) rfl (.cons ok46 (.cons ok47 (.cons ok48 .nil))) (ok := []) (fn := Tryz.f27) (by kernel_rfl) (by kernel_rfl) (by kernel_rfl) (by kernel_rfl) rfl (fun _ _ => by simp) b27
def maI (m : Ma) : V := .ip 34 [m.row] 0 0
def spI (s : Sp) : V := .ip 2 [s.row] 0 0
@[simp] def mtE (d : Ma × Sp) : List V := [maI d.1, spI d.2]
theorem mtE_inj (a b : Ma × Sp) (h : mtE a = mtE b) : a = b := by
  obtain ⟨a1, a2⟩ := a; obtain ⟨b1, b2⟩ := b
  simp only [mtE, maI, spI, List.cons.injEq, V.ip.injEq, true_and, and_true] at h
  rw [show a1 = b1 from Ma.row_inj _ _ h.1, show a2 = b2 from Sp.row_inj _ _ h.2]
theorem mtE_dec (m : Ma) (s : Sp) : decC mtE [.ip 34 [m.row] 0 0, .ip 2 [[.int .i64 s.lo, .int .i64 s.hi]] 0 0] = (m, s) := decC_eq mtE_inj (m, s)
def mtL (m : Ma) (s : Sp) : List BdD := [hovD m, groD m s, powD m]
noncomputable abbrev mtS : PSpec := mkP mtE (fun _ => True) fun d => .sl 7 ((mtL d.1 d.2).map lkR)
noncomputable abbrev E43 : Env := { P := Tryz.prog, fn := tbl [(44, .pure hovS), (45, .pure groS), (46, .pure powS)], own := [], key := 4300, nt := 11 }
theorem b43 : PureBody E43 [(1, ([0, 1, 2, 3, 4, 5, 6], [[0, 1, 2, 3, 4, 5, 6, 7, 8]]))] Tryz.f43 mtS := by
  refine pb ?_
  rintro ⟨m, s⟩ _
  have d1 := maE_dec m
  have d2 := mbE_dec m s
  have d3 := mtE_dec m s
  simp -dsimp [Tryz.f43, E43, maI, spI, Sp.row]
  repeat' (first | omega | (simp -dsimp [E43, ri, cellp, ints, Sp.row, maI, spI, d1, d2, d3, mtL, FreeAt, FoOk]) | (refine Also.intro ?_ fun _ => ?_) | (refine Hold.intro fun _ => ?_) | (refine And.intro ?_ ?_))
theorem ok43 : FnOK Tryz.prog 43 (.pure mtS) := pure_fn (E := E43) rfl (.cons ok44 (.cons ok45 (.cons ok46 .nil))) (ok := [(1, ([0, 1, 2, 3, 4, 5, 6], [[0, 1, 2, 3, 4, 5, 6, 7, 8]]))]) (fn := Tryz.f43) (by kernel_rfl) (by kernel_rfl) (by kernel_rfl) (by kernel_rfl) rfl (fun _ _ => by simp) b43
/-! equal lists -/
@[simp] def eqE (d : List Int × List Int) : List V := [ints d.1, ints d.2]
theorem eqE_inj (a b : List Int × List Int) (h : eqE a = eqE b) : a = b := by
  obtain ⟨a1, a2⟩ := a; obtain ⟨b1, b2⟩ := b
  simp only [eqE, List.cons.injEq, and_true] at h
  rw [ints_inj _ _ h.1, ints_inj _ _ h.2]
theorem eqE_dec (a b : List Int) : decC eqE [.sl 1 (a.map ri), .sl 1 (b.map ri)] = (a, b) := decC_eq eqE_inj (a, b)
noncomputable abbrev eqS : PSpec := mkP eqE (fun d => d.1.length ≤ 1000000 ∧ d.2.length ≤ 1000000) fun d => .bool (decide (d.1 = d.2))
noncomputable abbrev E100 : Env := { P := Tryz.prog, fn := tbl [], own := [], key := 10000, nt := 26 }
theorem b100 : PureBody E100 [] Tryz.f100 eqS := by
  refine pb ?_
  rintro ⟨a, b⟩ ⟨ha, hb⟩
  simp only at ha hb
  by_cases hl : a.length = b.length
  case neg =>
    have hz : (a = b) = False := eq_false fun e => hl (by rw [e])
    have hi : ((a.length : Int) = b.length) = False := eq_false (by omega)
    simp -dsimp [Tryz.f100, E100]
    repeat' (first | omega | (simp -dsimp [E100, ri, cellp, ints, hl, hi, hz]) | (refine Also.intro ?_ fun _ => ?_) | (refine Hold.intro fun _ => ?_) | (refine And.intro ?_ ?_))
  have hi : ((a.length : Int) = b.length) = True := eq_true (by omega)
  simp -dsimp [Tryz.f100, E100]
  repeat' (first | omega | (simp -dsimp [E100, ri, cellp, ints, hi]) | (refine Also.intro ?_ fun _ => ?_) | (refine Hold.intro fun _ => ?_) | (refine And.intro ?_ ?_))
  refine awp_loop [14, 15, 5, 16, 17, 18, 19, 20, 21, 22, 23, 24, 4, 25, 13] (fun k : { k : Nat // k ≤ a.length ∧ ∀ j, j < k → a[j]? = b[j]? } => [(13, (true, .int .i64 k.1))]) (fun _ => noH) (fun k => a.length - k.1) ⟨0, by omega, fun _ h => by omega⟩ ?_ (HLe.refl _) ?_
  · simp [okAll, okv]
  rintro ⟨k, hk, hall⟩
  dsimp only
  by_cases hk1 : k < a.length
  · have hki : (k : Int) < a.length := by omega
    have wk : IntKind.wrap .i64 ((k : Int) + 1) = (k + 1 : Nat) := wrap_id (by omega) (by omega)
    have hk2 : k < b.length := by omega
    obtain ⟨x, hx, hx'⟩ := get_ex hk1
    obtain ⟨y, hy, hy'⟩ := get_ex hk2
    by_cases he : x = y
    · simp -dsimp [hki]
      repeat' (first | omega | (simp -dsimp [E100, ri, cellp, ints, hki, hk1, hk2, wk, hx, hx', hy, hy', he]) | (refine Also.intro ?_ fun _ => ?_) | (refine Hold.intro fun _ => ?_) | (refine And.intro ?_ ?_))
      refine ⟨k + 1, tle_chain rfl ?_, HLe.refl _, ⟨by omega, fun j hj => ?_⟩, by omega⟩
      · simp [okAll, okv]
      · by_cases hjk : j = k
        · subst hjk; rw [hx, hy, he]
        · exact hall j (by omega)
    · have hz : (a = b) = False := eq_false fun e => he (by subst e; rw [hx] at hy; cases hy; rfl)
      simp -dsimp [hki]
      repeat' (first | omega | (simp -dsimp [E100, ri, cellp, ints, hki, hk1, hk2, wk, hx, hx', hy, hy', he, hz]) | (refine Also.intro ?_ fun _ => ?_) | (refine Hold.intro fun _ => ?_) | (refine And.intro ?_ ?_))
  · have hkn : ¬ (k : Int) < a.length := by omega
    have hz : (a = b) = True := eq_true (List.ext_getElem? fun j => by
      by_cases h : j < k
      · exact hall j h
      · rw [List.getElem?_eq_none (by omega), List.getElem?_eq_none (by omega)])
    simp -dsimp [hkn]
    repeat' (first | omega | (simp -dsimp [E100, ri, cellp, ints, hkn, hz]) | (refine Also.intro ?_ fun _ => ?_) | (refine Hold.intro fun _ => ?_) | (refine And.intro ?_ ?_))
theorem ok100 : FnOK Tryz.prog 100 (.pure eqS) := pure_fn (E := E100) rfl LOK.nil (ok := []) (fn := Tryz.f100) (by kernel_rfl) (by kernel_rfl) (by kernel_rfl) (by kernel_rfl) rfl (fun _ _ => by simp) b100
end Go.Sx.Rot
end
