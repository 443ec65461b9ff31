/- A part of a proof; no conditions. -/
import Derived.Test.YtomgmojjdgiieaaGreatP28
set_option linter.unusedSimpArgs false
set_option linter.unusedVariables false
set_option linter.unusedSectionVars false
section
/- Plain: Bound lies within the values of the table. No conditions. -/
set_option linter.unusedSimpArgs false
set_option linter.unusedVariables false
namespace Go.Sx.Rot
open Go.Sx Go.Sx.Tab
def Vin (t : Tb) (L H : Int) : Prop := ∀ i k, i < t.xs.length → k < t.ys.length → L ≤ t.v i k ∧ t.v i k ≤ H
theorem mul3 {a b c : Int} (ha : 0 ≤ a) (hb : 0 ≤ b) (hc : 0 ≤ c) : 0 ≤ a * b * c := Int.mul_nonneg (Int.mul_nonneg ha hb) hc
theorem num_ge {t : Tb} {L H : Int} (hv : Vin t L H) {i k : Nat} {x y : Int} (hi : inC t.xs i x) (hk : inC t.ys k y) : L * t.den i k ≤ t.num i k x y ∧ t.num i k x y ≤ H * t.den i k := by
  obtain ⟨i1, i2, i3⟩ := hi
  obtain ⟨k1, k2, k3⟩ := hk
  have v00 := hv i k (by omega) (by omega)
  have v10 := hv (i + 1) k (by omega) (by omega)
  have v01 := hv i (k + 1) (by omega) (by omega)
  have v11 := hv (i + 1) (k + 1) (by omega) (by omega)
  simp only [Tb.num, Tb.den]
  generalize t.v i k = a at *
  generalize t.v (i + 1) k = b at *
  generalize t.v i (k + 1) = c at *
  generalize t.v (i + 1) (k + 1) = d at *
  generalize t.xs.getD (i + 1) 0 = X at *
  generalize t.xs.getD i 0 = x0 at *
  generalize t.ys.getD (k + 1) 0 = Y at *
  generalize t.ys.getD k 0 = y0 at *
  constructor
  · have p1 := mul3 (a := X - x) (b := Y - y) (c := a - L) (by omega) (by omega) (by omega)
    have p2 := mul3 (a := x - x0) (b := Y - y) (c := b - L) (by omega) (by omega) (by omega)
    have p3 := mul3 (a := X - x) (b := y - y0) (c := c - L) (by omega) (by omega) (by omega)
    have p4 := mul3 (a := x - x0) (b := y - y0) (c := d - L) (by omega) (by omega) (by omega)
    have e : (X - x) * (Y - y) * a + (x - x0) * (Y - y) * b + (X - x) * (y - y0) * c + (x - x0) * (y - y0) * d - L * ((X - x0) * (Y - y0)) = (X - x) * (Y - y) * (a - L) + (x - x0) * (Y - y) * (b - L) + (X - x) * (y - y0) * (c - L) + (x - x0) * (y - y0) * (d - L) := by grind
    omega
  · have p1 := mul3 (a := X - x) (b := Y - y) (c := H - a) (by omega) (by omega) (by omega)
    have p2 := mul3 (a := x - x0) (b := Y - y) (c := H - b) (by omega) (by omega) (by omega)
    have p3 := mul3 (a := X - x) (b := y - y0) (c := H - c) (by omega) (by omega) (by omega)
    have p4 := mul3 (a := x - x0) (b := y - y0) (c := H - d) (by omega) (by omega) (by omega)
    have e : H * ((X - x0) * (Y - y0)) - ((X - x) * (Y - y) * a + (x - x0) * (Y - y) * b + (X - x) * (y - y0) * c + (x - x0) * (y - y0) * d) = (X - x) * (Y - y) * (H - a) + (x - x0) * (Y - y) * (H - b) + (X - x) * (y - y0) * (H - c) + (x - x0) * (y - y0) * (H - d) := by grind
    omega
theorem bound_vals {d : BdD} {L H : Int} (h : bdErr d = 0) (hv : Vin d.t L H) : L ≤ (boundF d).lo ∧ (boundF d).hi ≤ H := by
  obtain ⟨vl, vm⟩ := exR_va h
  obtain ⟨m1, m2⟩ := exRun_mem ((cnL d).map (pqAt d.t)) exS0 (.inr fun e => cnL_ne d (by simpa using e))
  constructor
  · rcases m1 with m1 | ⟨m1, _⟩
    · obtain ⟨⟨p, q⟩, hp, e⟩ := List.mem_map.1 m1
      obtain ⟨c1, c2, c3, c4⟩ := corner_in h hp
      simp only at c1 c2 c3 c4
      obtain ⟨i, k, hi, hk, e2, _⟩ := at_in h c1 c2 c3 c4
      have hg := (num_ge hv hi hk).1
      have e3 : (exR d).le.v = (d.t.num i k p q, d.t.den i k) := by
        show (exRun exS0 ((cnL d).map (pqAt d.t))).le.v = _
        rw [← e]; exact e2
      have w := vl.w1
      refine (Int.le_ediv_iff_mul_le (show 0 < (exR d).le.d from w)).2 ?_
      have e4 : (exR d).le.n = d.t.num i k p q := congrArg Prod.fst e3
      have e5 : (exR d).le.d = d.t.den i k := congrArg Prod.snd e3
      rw [e4, e5]; exact hg
    · cases m1
  · rcases m2 with m2 | ⟨m2, _⟩
    · obtain ⟨⟨p, q⟩, hp, e⟩ := List.mem_map.1 m2
      obtain ⟨c1, c2, c3, c4⟩ := corner_in h hp
      simp only at c1 c2 c3 c4
      obtain ⟨i, k, hi, hk, e2, _⟩ := at_in h c1 c2 c3 c4
      have hg := (num_ge hv hi hk).2
      have e3 : (exR d).mo.v = (d.t.num i k p q, d.t.den i k) := by
        show (exRun exS0 ((cnL d).map (pqAt d.t))).mo.v = _
        rw [← e]; exact e2
      have w := vm.w1
      have e4 : (exR d).mo.n = d.t.num i k p q := congrArg Prod.fst e3
      have e5 : (exR d).mo.d = d.t.den i k := congrArg Prod.snd e3
      have : -H ≤ -(exR d).mo.n / (exR d).mo.d := by
        refine (Int.le_ediv_iff_mul_le (show 0 < (exR d).mo.d from w)).2 ?_
        rw [e4, e5, Int.neg_mul]; omega
      show -(-(exR d).mo.n / (exR d).mo.d) ≤ _
      omega
    · cases m2
theorem bound_le {d : BdD} (h : bdErr d = 0) : (boundF d).lo ≤ (boundF d).hi := by
  obtain ⟨_, ⟨_, ha, _⟩, ⟨_, hb, _⟩, _⟩ := bdErr_ok h
  obtain ⟨i, k, hi, hk, e, hva⟩ := at_in h (x := d.a.lo) (y := d.b.lo) (by omega) ha (by omega) hb
  obtain ⟨g1, g2⟩ := bound_pt h (x := d.a.lo) (y := d.b.lo) (by omega) ha (by omega) hb
  have g1 := g1 i k hi hk
  have g2 := g2 i k hi hk
  obtain ⟨ht, _⟩ := bdErr_ok h
  obtain ⟨hax, hay, _⟩ := tbB_facts ht
  have hp := Tb.den_pos (axB_asc hax) (axB_asc hay) hi hk
  have : d.t.den i k * (boundF d).lo ≤ d.t.den i k * (boundF d).hi := by rw [Int.mul_comm, Int.mul_comm _ (boundF d).hi]; omega
  exact le_of_mul hp this
theorem limB_vin {l : Lim} (h : limB l = true) : Vin l.t l.lo l.hi := by
  simp only [limB, Bool.and_eq_true, Bool.not_eq_true', List.any_eq_false] at h
  obtain ⟨ht, hv⟩ := h
  have hl := tbB_len ht
  have hr := tbB_rows ht
  intro i k hi hk
  have hi' : i < l.t.vs.length := by omega
  have := hv _ (List.getElem_mem hi')
  simp only [rowBey, Bool.not_eq_true, List.any_eq_false] at this
  have hkr : k < (l.t.vs[i]).length := by rw [hr _ (List.getElem_mem hi')]; exact hk
  have := this _ (List.getElem_mem hkr)
  have e : l.t.v i k = (l.t.vs[i])[k] := by simp [Tb.v, List.getD, hi', hkr]
  rw [e]
  simpa [beyP, withinB] using this
end Go.Sx.Rot
end
section
/- Rotor: what is needed in hover, the margin. No conditions. -/
set_option linter.unusedSimpArgs false
set_option linter.unusedSectionVars false
set_option maxRecDepth 100000
set_option maxHeartbeats 4000000
namespace Go.Sx.Rot
open Go.Proofs Go.Sx Go.Sx.Tab
attribute [local irreducible] HLe
attribute [local simp] hps_app
theorem mulB {a b : Int} (h1 : -1000000 ≤ a) (h2 : a ≤ 1000000) (h3 : -1000000 ≤ b) (h4 : b ≤ 1000000) : -1000000000000 ≤ a * b ∧ a * b ≤ 1000000000000 := by
  have h : (a * b).natAbs ≤ 1000000 * 1000000 := by rw [Int.natAbs_mul]; exact Nat.mul_le_mul (by omega) (by omega)
  omega
structure Sm (s : Sp) : Prop where
  a : -1000000 ≤ s.lo
  b : s.lo ≤ 1000000
  c : -1000000 ≤ s.hi
  d : s.hi ≤ 1000000
structure NeP (d : Ma × Sp) : Prop where
  h : TbP d.1.r.h
  g : TbP d.1.r.g
  p : TbP d.1.r.p
  bh : Sm (bndF (hovD d.1))
  bg : Sm (bndF (groD d.1 d.2))
  bp : Sm (bndF (powD d.1))
@[simp] theorem lk_leaf (d : BdD) : (lkR d).all V.leaf = true := rfl
@[simp] theorem lk_cell (d : BdD) : (lkR d).all V.cell1 = true := rfl
@[simp] theorem lk_free (d : BdD) : (lkR d).all V.refFree = true := rfl
@[simp] theorem lk_free1 (d : BdD) : (lkR d).all V.refFree1 = true := rfl
@[simp] theorem lk_len (d : BdD) : (lkR d).length = 7 := rfl
@[simp] theorem lk_take (d : BdD) : (lkR d).take 7 = lkR d := rfl
@[simp] theorem lk_lend (h : Hp) (d : BdD) : lends1 h (lkR d) = (True, lkR d) := by simp [lkR, ints, lends1, lend1, lendN]
@[simp] theorem lk_subs (d : BdD) : subs0 (lkR d) (lkR d) = True := eq_true (subs0_refl _)
end Go.Sx.Rot
end
section
/- Rotor: the margin, the tables of a margin, equal lists. No conditions. -/
set_option linter.unusedSimpArgs false
set_option linter.unusedSectionVars false
set_option maxRecDepth 100000
set_option maxHeartbeats 4000000
namespace Go.Sx.Rot
open Go.Proofs Go.Sx Go.Sx.Tab
attribute [local irreducible] HLe
attribute [local simp] hps_app
def maI (m : Ma) : V := .ip 34 [m.row] 0 0
def spI (s : Sp) : V := .ip 2 [s.row] 0 0
@[simp] def mtE (d : Ma × Sp) : List V := [maI d.1, spI d.2]
theorem mtE_inj (a b : Ma × Sp) (h : mtE a = mtE b) : a = b := by
  obtain ⟨a1, a2⟩ := a; obtain ⟨b1, b2⟩ := b
  simp only [mtE, maI, spI, List.cons.injEq, V.ip.injEq, true_and, and_true] at h
  rw [show a1 = b1 from Ma.row_inj _ _ h.1, show a2 = b2 from Sp.row_inj _ _ h.2]
theorem mtE_dec (m : Ma) (s : Sp) : decC mtE [.ip 34 [m.row] 0 0, .ip 2 [[.int .i64 s.lo, .int .i64 s.hi]] 0 0] = (m, s) := decC_eq mtE_inj (m, s)
@[simp] def eqE (d : List Int × List Int) : List V := [ints d.1, ints d.2]
theorem eqE_inj (a b : List Int × List Int) (h : eqE a = eqE b) : a = b := by
  obtain ⟨a1, a2⟩ := a; obtain ⟨b1, b2⟩ := b
  simp only [eqE, List.cons.injEq, and_true] at h
  rw [ints_inj _ _ h.1, ints_inj _ _ h.2]
theorem eqE_dec (a b : List Int) : decC eqE [.sl 1 (a.map ri), .sl 1 (b.map ri)] = (a, b) := decC_eq eqE_inj (a, b)
noncomputable abbrev eqS : PSpec := mkP eqE (fun d => d.1.length ≤ 1000000 ∧ d.2.length ≤ 1000000) fun d => .bool (decide (d.1 = d.2))
noncomputable abbrev E83 : Env := { P := Tryz.prog, fn := tbl [], own := [], key := 8300, nt := 26 }
theorem b83 : PureBody E83 [] Tryz.f83 eqS := by
  refine pb ?_
  rintro ⟨a, b⟩ ⟨ha, hb⟩
  simp only at ha hb
  by_cases hl : a.length = b.length
  case neg =>
    have hz : (a = b) = False := eq_false fun e => hl (by rw [e])
    have hi : ((a.length : Int) = b.length) = False := eq_false (by omega)
    simp -dsimp [Tryz.f83, E83]
    repeat' (first | omega | (simp -dsimp [E83, ri, cellp, ints, hl, hi, hz]) | (refine Also.intro ?_ fun _ => ?_) | (refine Hold.intro fun _ => ?_) | (refine And.intro ?_ ?_))
  have hi : ((a.length : Int) = b.length) = True := eq_true (by omega)
  simp -dsimp [Tryz.f83, E83]
  repeat' (first | omega | (simp -dsimp [E83, ri, cellp, ints, hi]) | (refine Also.intro ?_ fun _ => ?_) | (refine Hold.intro fun _ => ?_) | (refine And.intro ?_ ?_))
  refine awp_loop [14, 15, 5, 16, 17, 18, 19, 20, 21, 22, 23, 24, 4, 25, 13] (fun k : { k : Nat // k ≤ a.length ∧ ∀ j, j < k → a[j]? = b[j]? } => [(13, (true, .int .i64 k.1))]) (fun _ => noH) (fun k => a.length - k.1) ⟨0, by omega, fun _ h => by omega⟩ ?_ (HLe.refl _) ?_
  · simp [okAll, okv]
  rintro ⟨k, hk, hall⟩
  dsimp only
  by_cases hk1 : k < a.length
  · have hki : (k : Int) < a.length := by omega
    have wk : IntKind.wrap .i64 ((k : Int) + 1) = (k + 1 : Nat) := wrap_id (by omega) (by omega)
    have hk2 : k < b.length := by omega
    obtain ⟨x, hx, hx'⟩ := get_ex hk1
    obtain ⟨y, hy, hy'⟩ := get_ex hk2
    by_cases he : x = y
    · simp -dsimp [hki]
      repeat' (first | omega | (simp -dsimp [E83, ri, cellp, ints, hki, hk1, hk2, wk, hx, hx', hy, hy', he]) | (refine Also.intro ?_ fun _ => ?_) | (refine Hold.intro fun _ => ?_) | (refine And.intro ?_ ?_))
      refine ⟨k + 1, tle_chain rfl ?_, HLe.refl _, ⟨by omega, fun j hj => ?_⟩, by omega⟩
      · simp [okAll, okv]
      · by_cases hjk : j = k
        · subst hjk; rw [hx, hy, he]
        · exact hall j (by omega)
    · have hz : (a = b) = False := eq_false fun e => he (by subst e; rw [hx] at hy; cases hy; rfl)
      simp -dsimp [hki]
      repeat' (first | omega | (simp -dsimp [E83, ri, cellp, ints, hki, hk1, hk2, wk, hx, hx', hy, hy', he, hz]) | (refine Also.intro ?_ fun _ => ?_) | (refine Hold.intro fun _ => ?_) | (refine And.intro ?_ ?_))
  · have hkn : ¬ (k : Int) < a.length := by omega
    have hz : (a = b) = True := eq_true (List.ext_getElem? fun j => by
      by_cases h : j < k
      · exact hall j h
      · rw [List.getElem?_eq_none (by omega), List.getElem?_eq_none (by omega)])
    simp -dsimp [hkn]
    repeat' (first | omega | (simp -dsimp [E83, ri, cellp, ints, hkn, hz]) | (refine Also.intro ?_ fun _ => ?_) | (refine Hold.intro fun _ => ?_) | (refine And.intro ?_ ?_))
theorem ok83 : FnOK Tryz.prog 83 (.pure eqS) := pure_fn (E := E83) rfl LOK.nil (ok := []) (fn := Tryz.f83) (by kernel_rfl) (by kernel_rfl) (by kernel_rfl) (by kernel_rfl) rfl (fun _ _ => by simp) b83
end Go.Sx.Rot
end
section
/- Rotor: Check. No conditions. -/
set_option linter.unusedSimpArgs false
set_option linter.unusedSectionVars false
set_option maxRecDepth 100000
set_option maxHeartbeats 4000000
namespace Go.Sx.Rot
open Go.Proofs Go.Sx Go.Sx.Tab
attribute [local irreducible] HLe
attribute [local simp] hps_app
def limL (r : Ro) : List Lim := [⟨r.h, 0, 100000⟩, ⟨r.g, 0, 100⟩, ⟨r.l, 0, 100000⟩, ⟨r.p, 0, 100000⟩, ⟨r.n, 0, 10000⟩, ⟨r.rl, 0, 10000⟩, ⟨r.rh, 0, 10000⟩, ⟨r.gl, 1, 10000⟩]
structure RoP (r : Ro) : Prop where
  l : ∀ x ∈ limL r, TbP x.t
def lesB (t u : Tb) : Bool := (List.range t.vs.length).all fun i => (List.range (t.vs.getD i []).length).all fun k => decide (t.v i k ≤ u.v i k)
def rotB (r : Ro) : Bool := (limL r).all limB && (decide (r.rl.xs = r.rh.xs) && (decide (r.rl.ys = r.rh.ys) && (withinB r.climb 1 1000 && (withinB r.burn 1 1000 && lesB r.rl r.rh))))
def rotE (r : Ro) : Int := if rotB r = true then 0 else 20
@[simp] def roE (r : Ro) : List V := [.agg r.row]
theorem roE_inj (a b : Ro) (h : roE a = roE b) : a = b := Ro.row_inj _ _ (by simpa using h)
theorem roE_dec (r : Ro) : decC roE [.agg r.row] = r := decC_eq roE_inj r
noncomputable abbrev rotS : PSpec := mkP roE RoP fun r => .int .i64 (rotE r)
theorem limL_rows (r : Ro) : ([[.sl 1 (r.h.xs.map ri), .sl 1 (r.h.ys.map ri), .sl 1 (r.h.vs.map rwI), .int .i64 0, .int .i64 100000], [.sl 1 (r.g.xs.map ri), .sl 1 (r.g.ys.map ri), .sl 1 (r.g.vs.map rwI), .int .i64 0, .int .i64 100], [.sl 1 (r.l.xs.map ri), .sl 1 (r.l.ys.map ri), .sl 1 (r.l.vs.map rwI), .int .i64 0, .int .i64 100000], [.sl 1 (r.p.xs.map ri), .sl 1 (r.p.ys.map ri), .sl 1 (r.p.vs.map rwI), .int .i64 0, .int .i64 100000], [.sl 1 (r.n.xs.map ri), .sl 1 (r.n.ys.map ri), .sl 1 (r.n.vs.map rwI), .int .i64 0, .int .i64 10000], [.sl 1 (r.rl.xs.map ri), .sl 1 (r.rl.ys.map ri), .sl 1 (r.rl.vs.map rwI), .int .i64 0, .int .i64 10000], [.sl 1 (r.rh.xs.map ri), .sl 1 (r.rh.ys.map ri), .sl 1 (r.rh.vs.map rwI), .int .i64 0, .int .i64 10000], [.sl 1 (r.gl.xs.map ri), .sl 1 (r.gl.ys.map ri), .sl 1 (r.gl.vs.map rwI), .int .i64 1, .int .i64 10000]] : List (List V)) = (limL r).map Lim.row := rfl
theorem liE_dec (x : Lim) : decC liE [.agg [.sl 1 (x.t.xs.map ri), .sl 1 (x.t.ys.map ri), .sl 1 (x.t.vs.map rwI), .int .i64 x.lo, .int .i64 x.hi]] = x := decC_eq liE_inj x
def roS (r : Ro) : Site := { base := 0, blks := [{ z := 26, els := [r.row], ty := 27, fz := true }] }
def tbS (t : Tb) : Site := { base := 0, blks := [{ z := 3, els := [[.sl 1 (t.xs.map ri), .sl 1 (t.ys.map ri), .sl 1 (t.vs.map rwI)]], ty := 25 }] }
theorem rot_no {r : Ro} {k : Nat} {x : Lim} (hx : (limL r)[k]? = some x) (h : limB x = false) : rotE r = 20 := by
  have : (limL r).all limB = false := List.all_eq_false.2 ⟨x, List.mem_of_getElem? hx, by simp [h]⟩
  simp [rotE, rotB, this]
theorem les_no {t u : Tb} {i k : Nat} (hi : i < t.vs.length) (hk : k < (t.vs.getD i []).length) (h : ¬ t.v i k ≤ u.v i k) : lesB t u = false := by
  rw [lesB, List.all_eq_false]
  refine ⟨i, by simpa using hi, ?_⟩
  rw [Bool.not_eq_true, List.all_eq_false]
  exact ⟨k, by simpa using hk, by simpa using h⟩
theorem les_ok {t u : Tb} (h : ∀ i, i < t.vs.length → ∀ k, k < (t.vs.getD i []).length → t.v i k ≤ u.v i k) : lesB t u = true := by
  rw [lesB, List.all_eq_true]
  intro i hi
  rw [List.all_eq_true]
  intro k hk
  exact decide_eq_true (h i (by simpa using hi) k (by simpa using hk))
noncomputable abbrev E49 : Env := { P := Tryz.prog, fn := tbl [(82, .pure limS), (83, .pure eqS), (84, .pure withinS)], own := [], key := 4900, nt := 102, frz := [(1, [1, 50001])] }
theorem b49 : PureBody E49 [(7, ([1, 3], [[0, 1, 2, 3, 4, 5, 6, 7]]))] Tryz.f49 rotS := by
  refine pb ?_
  rintro r hP
  have hL := limL_rows r
  have hlen : (limL r).length = 8 := rfl
  simp -dsimp [Tryz.f49, E49]
  repeat' (first | omega | (simp -dsimp [E49, ri, cellp, ints, hlen]) | (refine Also.intro ?_ fun _ => ?_) | (refine Hold.intro fun _ => ?_) | (refine And.intro ?_ ?_))
  rw [hL]
  refine awp_loop [38, 39, 40, 4, 41, 42, 43, 2, 44, 37] (fun k : { k : Nat // k ≤ 8 ∧ ∀ j x, j < k → (limL r)[j]? = some x → limB x = true } => [(37, (true, .int .i64 k.1))]) (fun k => hps [(4904, { base := k.1, blks := [] }), (4901, roS r)] noH) (fun k => 8 - k.1) ⟨0, by omega, fun _ _ h => by omega⟩ ?_ ?_ ?_
  · simp [okAll, okv]
  · exact (by (try simp -dsimp only [hpush_noH, hpush_hps, hps_over]); refine hle_hps ?_; simp -dsimp [allK, roS]; repeat' (first | (refine And.intro ?_ ?_) | (refine sLe.same ?_ ?_ <;> (simp; done)) | (refine sLe.clear ?_ ?_ <;> (first | (simp; done) | (simp; omega))) | (refine sLe.drop 1 ?_ ?_ ?_ <;> (simp; done))))
  rintro ⟨k, hk, hall⟩
  dsimp only
  by_cases hk1 : k < 8
  · have hki : (k : Int) < 8 := by omega
    have hkl : k < (limL r).length := by omega
    have wk : IntKind.wrap .i64 ((k : Int) + 1) = (k + 1 : Nat) := wrap_id (by omega) (by omega)
    obtain ⟨x, hx, hx'⟩ := get_ex hkl
    have hT := hP.l x (hx' ▸ List.getElem_mem hkl)
    cases hw : limB x
    · have hz := rot_no hx hw
      have hd := liE_dec x
      obtain ⟨t, lo, hi⟩ := x
      simp only at hd hT
      simp -dsimp [hki]
      repeat' (first | omega | (simp -dsimp [E49, ri, cellp, ints, hki, hk1, hkl, hlen, hx, hx', hT, hw, hz, wk, hd, Lim.row, roS]) | (refine Also.intro ?_ fun _ => ?_) | (refine Hold.intro fun _ => ?_) | (refine And.intro ?_ ?_))
    · have hd := liE_dec x
      obtain ⟨t, lo, hi⟩ := x
      simp only at hd hT
      simp -dsimp [hki]
      repeat' (first | omega | (simp -dsimp [E49, ri, cellp, ints, hki, hk1, hkl, hlen, hx, hx', hT, hw, wk, hd, Lim.row, roS]) | (refine Also.intro ?_ fun _ => ?_) | (refine Hold.intro fun _ => ?_) | (refine And.intro ?_ ?_))
      refine ⟨k + 1, tle_chain rfl ?_, ?_, ⟨by omega, fun j y hj hy => ?_⟩, by omega⟩
      · simp [okAll, okv]
      · exact (by (try simp -dsimp only [hpush_noH, hpush_hps, hps_over]); refine hle_hps ?_; simp -dsimp [allK, roS]; repeat' (first | (refine And.intro ?_ ?_) | (refine sLe.same ?_ ?_ <;> (simp; done)) | (refine sLe.clear ?_ ?_ <;> (first | (simp; done) | (simp; omega))) | (refine sLe.drop 1 ?_ ?_ ?_ <;> (simp; done))))
      · by_cases hjk : j = k
        · subst hjk; rw [hx] at hy; cases hy; exact hw
        · exact hall j y (by omega) hy
  have hkn : ((k : Int) < 8) = False := eq_false (by omega)
  have : k = 8 := by omega
  subst this
  have hA : ∀ x ∈ limL r, limB x = true := fun x hx => by
    obtain ⟨j, hj, e⟩ := List.getElem_of_mem hx
    exact hall j x (by omega) (by rw [List.getElem?_eq_getElem hj, e])
  have hAll : (limL r).all limB = true := List.all_eq_true.2 hA
  have a5 : tbB r.rl = true := by have := hA ⟨r.rl, 0, 10000⟩ (by simp [limL]); simp only [limB, Bool.and_eq_true] at this; exact this.1
  have a6 : tbB r.rh = true := by have := hA ⟨r.rh, 0, 10000⟩ (by simp [limL]); simp only [limB, Bool.and_eq_true] at this; exact this.1
  obtain ⟨n1, n2, n3⟩ := tbB_len a5
  obtain ⟨m1, m2, m3⟩ := tbB_len a6
  have r5 := tbB_rows a5
  have r6 := tbB_rows a6
  have l1 : r.rl.xs.length ≤ 1000000 := by omega
  have l2 : r.rl.ys.length ≤ 1000000 := by omega
  have l3 : r.rh.xs.length ≤ 1000000 := by omega
  have l4 : r.rh.ys.length ≤ 1000000 := by omega
  by_cases c1 : r.rl.xs = r.rh.xs
  case neg =>
    have hz : rotE r = 20 := by simp [rotE, rotB, c1]
    simp -dsimp [hkn]
    repeat' (first | omega | (simp -dsimp [E49, ri, cellp, ints, hkn, roS, eqE_dec, c1, l1, l2, l3, l4, hz, FreeAt, FoOk]) | (refine Also.intro ?_ fun _ => ?_) | (refine Hold.intro fun _ => ?_) | (refine And.intro ?_ ?_))
  by_cases c2 : r.rl.ys = r.rh.ys
  case neg =>
    have hz : rotE r = 20 := by simp [rotE, rotB, c2]
    simp -dsimp [hkn]
    repeat' (first | omega | (simp -dsimp [E49, ri, cellp, ints, hkn, roS, eqE_dec, c1, c2, l1, l2, l3, l4, hz, FreeAt, FoOk]) | (refine Also.intro ?_ fun _ => ?_) | (refine Hold.intro fun _ => ?_) | (refine And.intro ?_ ?_))
  cases c3 : withinB r.climb 1 1000
  · have hz : rotE r = 20 := by simp [rotE, rotB, c3]
    simp -dsimp [hkn]
    repeat' (first | omega | (simp -dsimp [E49, ri, cellp, ints, hkn, roS, eqE_dec, c1, c2, c3, l1, l2, l3, l4, hz, FreeAt, FoOk]) | (refine Also.intro ?_ fun _ => ?_) | (refine Hold.intro fun _ => ?_) | (refine And.intro ?_ ?_))
  cases c4 : withinB r.burn 1 1000
  · have hz : rotE r = 20 := by simp [rotE, rotB, c4]
    simp -dsimp [hkn]
    repeat' (first | omega | (simp -dsimp [E49, ri, cellp, ints, hkn, roS, eqE_dec, c1, c2, c3, c4, l1, l2, l3, l4, hz, FreeAt, FoOk]) | (refine Also.intro ?_ fun _ => ?_) | (refine Hold.intro fun _ => ?_) | (refine And.intro ?_ ?_))
  have hz : rotE r = if lesB r.rl r.rh = true then 0 else 20 := by simp [rotE, rotB, c1, c2, c3, c4, hAll]
  simp -dsimp [hkn]
  repeat' (first | omega | (simp -dsimp [E49, ri, cellp, ints, hkn, roS, eqE_dec, c1, c2, c3, c4, l1, l2, l3, l4, FreeAt, FoOk]) | (refine Also.intro ?_ fun _ => ?_) | (refine Hold.intro fun _ => ?_) | (refine And.intro ?_ ?_))
  refine awp_loop [79, 80, 81, 82, 7, 8, 83, 84, 85, 86, 87, 88, 89, 9, 10, 90, 91, 92, 93, 94, 95, 96, 97, 98, 99, 2, 100, 101, 78] (fun k : { k : Nat // k ≤ r.rl.vs.length ∧ ∀ i, i < k → ∀ j, j < (r.rl.vs.getD i []).length → r.rl.v i j ≤ r.rh.v i j } => [(78, (true, .int .i64 k.1))]) (fun _ => hps [(4906, tbS r.rh), (4905, tbS ⟨r.rh.xs, r.rh.ys, r.rl.vs⟩), (4904, { base := 8, blks := [] }), (4901, roS r)] noH) (fun k => r.rl.vs.length - k.1) ⟨0, by omega, fun _ h => by omega⟩ ?_ ?_ ?_
  · simp [okAll, okv]
  · exact (by (try simp -dsimp only [hpush_noH, hpush_hps, hps_over]); refine hle_hps ?_; simp -dsimp [allK, tbS, roS]; repeat' (first | (refine And.intro ?_ ?_) | (refine sLe.same ?_ ?_ <;> (simp; done)) | (refine sLe.clear ?_ ?_ <;> (first | (simp; done) | (simp; omega))) | (refine sLe.drop 1 ?_ ?_ ?_ <;> (simp; done))))
  clear hall
  rintro ⟨k, hk, hall⟩
  dsimp only
  by_cases hk1 : k < r.rl.vs.length
  · have hki : (k : Int) < r.rl.vs.length := by omega
    have wk : IntKind.wrap .i64 ((k : Int) + 1) = (k + 1 : Nat) := wrap_id (by omega) (by omega)
    have hk2 : k < r.rh.vs.length := by rw [m3, ← c1, ← n3]; exact hk1
    obtain ⟨x, hx, hx'⟩ := get_ex hk1
    obtain ⟨y, hy, hy'⟩ := get_ex hk2
    have lx : x.length = r.rl.ys.length := r5 x (hx' ▸ List.getElem_mem hk1)
    have ly : y.length = r.rh.ys.length := r6 y (hy' ▸ List.getElem_mem hk2)
    have hxy : x.length = y.length := by rw [lx, ly, c2]
    have ex : r.rl.vs.getD k [] = x := by simp [List.getD, hx]
    simp -dsimp [hki]
    repeat' (first | omega | (simp -dsimp [E49, ri, cellp, ints, hki, hk1, hk2, hx, hx', hy, hy', rwI, tbS, roS]) | (refine Also.intro ?_ fun _ => ?_) | (refine Hold.intro fun _ => ?_) | (refine And.intro ?_ ?_))
    refine awp_loop [86, 87, 88, 89, 9, 10, 90, 91, 92, 93, 94, 95, 96, 97, 98, 99, 2, 100, 85] (fun j : { j : Nat // j ≤ x.length ∧ ∀ i, i < j → r.rl.v k i ≤ r.rh.v k i } => [(85, (true, .int .i64 j.1))]) (fun _ => hps [(4906, tbS r.rh), (4905, tbS ⟨r.rh.xs, r.rh.ys, r.rl.vs⟩), (4904, { base := 8, blks := [] }), (4901, roS r)] noH) (fun j => x.length - j.1) ⟨0, by omega, fun _ h => by omega⟩ ?_ ?_ ?_
    · simp [okAll, okv]
    · exact (by (try simp -dsimp only [hpush_noH, hpush_hps, hps_over]); refine hle_hps ?_; simp -dsimp [allK, tbS, roS]; repeat' (first | (refine And.intro ?_ ?_) | (refine sLe.same ?_ ?_ <;> (simp; done)) | (refine sLe.clear ?_ ?_ <;> (first | (simp; done) | (simp; omega))) | (refine sLe.drop 1 ?_ ?_ ?_ <;> (simp; done))))
    rintro ⟨j, hj, hin⟩
    dsimp only
    by_cases hj1 : j < x.length
    · have hji : (j : Int) < x.length := by omega
      have wj : IntKind.wrap .i64 ((j : Int) + 1) = (j + 1 : Nat) := wrap_id (by omega) (by omega)
      have hj2 : j < y.length := by omega
      obtain ⟨p, hp, hp'⟩ := get_ex hj1
      obtain ⟨q, hq, hq'⟩ := get_ex hj2
      have vp : r.rl.v k j = p := by simp [Tb.v, List.getD, hx, hp]
      have vq : r.rh.v k j = q := by simp [Tb.v, List.getD, hy, hq]
      by_cases hc : q < p
      · have hz' : rotE r = 20 := by rw [hz, les_no hk1 (by rw [ex]; exact hj1) (by rw [vp, vq]; omega)]; rfl
        simp -dsimp [hji]
        repeat' (first | omega | (simp -dsimp [E49, ri, cellp, ints, hji, hj1, hj2, hki, hk1, hk2, hx, hx', hy, hy', hp, hp', hq, hq', hc, hz', rwI, tbS, roS]) | (refine Also.intro ?_ fun _ => ?_) | (refine Hold.intro fun _ => ?_) | (refine And.intro ?_ ?_))
      · simp -dsimp [hji]
        repeat' (first | omega | (simp -dsimp [E49, ri, cellp, ints, hji, hj1, hj2, hki, hk1, hk2, hx, hx', hy, hy', hp, hp', hq, hq', hc, wj, rwI, tbS, roS]) | (refine Also.intro ?_ fun _ => ?_) | (refine Hold.intro fun _ => ?_) | (refine And.intro ?_ ?_))
        refine ⟨j + 1, tle_chain rfl ?_, ?_, ⟨by omega, fun i hi => ?_⟩, by omega⟩
        · simp [okAll, okv]
        · exact (by (try simp -dsimp only [hpush_noH, hpush_hps, hps_over]); refine hle_hps ?_; simp -dsimp [allK, tbS, roS]; repeat' (first | (refine And.intro ?_ ?_) | (refine sLe.same ?_ ?_ <;> (simp; done)) | (refine sLe.clear ?_ ?_ <;> (first | (simp; done) | (simp; omega))) | (refine sLe.drop 1 ?_ ?_ ?_ <;> (simp; done))))
        · by_cases hij : i = j
          · subst hij; rw [vp, vq]; omega
          · exact hin i (by omega)
    · have hjn : ¬ (j : Int) < x.length := by omega
      simp -dsimp [hjn]
      repeat' (first | omega | (simp -dsimp [E49, ri, cellp, ints, hjn, wk, tbS, roS]) | (refine Also.intro ?_ fun _ => ?_) | (refine Hold.intro fun _ => ?_) | (refine And.intro ?_ ?_))
      refine ⟨k + 1, tle_kept (kept_upds rfl (kept_forget rfl (kept_upds rfl kept_base))) ?_, ?_, ⟨by omega, fun i hi m hm => ?_⟩, by omega⟩
      · simp [okAll, okv]
      · exact (by (try simp -dsimp only [hpush_noH, hpush_hps, hps_over]); refine hle_hps ?_; simp -dsimp [allK, tbS, roS]; repeat' (first | (refine And.intro ?_ ?_) | (refine sLe.same ?_ ?_ <;> (simp; done)) | (refine sLe.clear ?_ ?_ <;> (first | (simp; done) | (simp; omega))) | (refine sLe.drop 1 ?_ ?_ ?_ <;> (simp; done))))
      · by_cases hik : i = k
        · subst hik; rw [← List.getD_eq_getElem?_getD, ex] at hm; exact hin m (by omega)
        · exact hall i (by omega) m (by rw [List.getD_eq_getElem?_getD]; exact hm)
  · have hkn' : ¬ (k : Int) < r.rl.vs.length := by omega
    have hz' : rotE r = 0 := by rw [hz, les_ok fun i hi j hj => hall i (by omega) j hj]; rfl
    simp -dsimp [hkn']
    repeat' (first | omega | (simp -dsimp [E49, ri, cellp, ints, hkn', hz', tbS, roS]) | (refine Also.intro ?_ fun _ => ?_) | (refine Hold.intro fun _ => ?_) | (refine And.intro ?_ ?_))
theorem ok49 : FnOK Tryz.prog 49 (.pure rotS) := pure_fn (E := E49) rfl (.cons ok82 (.cons ok83 (.cons ok84 .nil))) (ok := [(7, ([1, 3], [[0, 1, 2, 3, 4, 5, 6, 7]]))]) (fn := Tryz.f49) (by kernel_rfl) (by kernel_rfl) (by kernel_rfl) (by kernel_rfl) rfl (fun _ _ => by simp) b49
end Go.Sx.Rot
end
