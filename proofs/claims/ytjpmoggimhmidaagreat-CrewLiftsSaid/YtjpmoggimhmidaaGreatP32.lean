/- A part of a proof; no conditions. -/
import Derived.Test.YtjpmoggimhmidaaGreatP31
import Derived.Test.YtjpmoggimhmidaaGreatP29
set_option linter.unusedSimpArgs false
set_option linter.unusedVariables false
set_option linter.unusedSectionVars false
section
/- Rotor: Check. No conditions. -/
set_option linter.unusedSimpArgs false
set_option linter.unusedSectionVars false
set_option maxRecDepth 100000
set_option maxHeartbeats 4000000
namespace Go.Sx.Rot
open Go.Proofs Go.Sx Go.Sx.Tab
attribute [local irreducible] HLe
attribute [local simp] hps_app

def limL (r : Ro) : List Lim := [⟨r.h, 0, 100000⟩, ⟨r.g, 0, 100⟩, ⟨r.l, 0, 100000⟩, ⟨r.p, 0, 100000⟩, ⟨r.n, 0, 10000⟩, ⟨r.rl, 0, 10000⟩, ⟨r.rh, 0, 10000⟩, ⟨r.gl, 1, 10000⟩]
structure RoP (r : Ro) : Prop where
  l : ∀ x ∈ limL r, TbP x.t
def lesB (t u : Tb) : Bool := (List.range t.vs.length).all fun i => (List.range (t.vs.getD i []).length).all fun k => decide (t.v i k ≤ u.v i k)
def rotB (r : Ro) : Bool := (limL r).all limB && (decide (r.rl.xs = r.rh.xs) && (decide (r.rl.ys = r.rh.ys) && (withinB r.climb 1 1000 && (withinB r.burn 1 1000 && lesB r.rl r.rh))))
def rotE (r : Ro) : Int := if rotB r = true then 0 else 20
@[simp] def roE (r : Ro) : List V := [.agg r.row]
theorem roE_inj (a b : Ro) (h : roE a = roE b) : a = b := Ro.row_inj _ _ (by simpa using h)
theorem roE_dec (r : Ro) : decC roE [.agg r.row] = r := decC_eq roE_inj r
noncomputable abbrev rotS : PSpec := mkP roE RoP fun r => .int .i64 (rotE r)
theorem limL_rows (r : Ro) : ([[.sl 1 (r.h.xs.map ri), .sl 1 (r.h.ys.map ri), .sl 1 (r.h.vs.map rwI), .int .i64 0, .int .i64 100000], [.sl 1 (r.g.xs.map ri), .sl 1 (r.g.ys.map ri), .sl 1 (r.g.vs.map rwI), .int .i64 0, .int .i64 100], [.sl 1 (r.l.xs.map ri), .sl 1 (r.l.ys.map ri), .sl 1 (r.l.vs.map rwI), .int .i64 0, .int .i64 100000], [.sl 1 (r.p.xs.map ri), .sl 1 (r.p.ys.map ri), .sl 1 (r.p.vs.map rwI), .int .i64 0, .int .i64 100000], [.sl 1 (r.n.xs.map ri), .sl 1 (r.n.ys.map ri), .sl 1 (r.n.vs.map rwI), .int .i64 0, .int .i64 10000], [.sl 1 (r.rl.xs.map ri), .sl 1 (r.rl.ys.map ri), .sl 1 (r.rl.vs.map rwI), .int .i64 0, .int .i64 10000], [.sl 1 (r.rh.xs.map ri), .sl 1 (r.rh.ys.map ri), .sl 1 (r.rh.vs.map rwI), .int .i64 0, .int .i64 10000], [.sl 1 (r.gl.xs.map ri), .sl 1 (r.gl.ys.map ri), .sl 1 (r.gl.vs.map rwI), .int .i64 1, .int .i64 10000]] : List (List V)) = (limL r).map Lim.row := rfl
theorem liE_dec (x : Lim) : decC liE [.agg [.sl 1 (x.t.xs.map ri), .sl 1 (x.t.ys.map ri), .sl 1 (x.t.vs.map rwI), .int .i64 x.lo, .int .i64 x.hi]] = x := decC_eq liE_inj x
def roS (r : Ro) : Site := { base := 0, blks := [{ z := 26, els := [r.row], ty := 27, fz := true }] }
def tbS (t : Tb) : Site := { base := 0, blks := [{ z := 3, els := [[.sl 1 (t.xs.map ri), .sl 1 (t.ys.map ri), .sl 1 (t.vs.map rwI)]], ty := 25 }] }
theorem rot_no {r : Ro} {k : Nat} {x : Lim} (hx : (limL r)[k]? = some x) (h : limB x = false) : rotE r = 20 := by
  have : (limL r).all limB = false := List.all_eq_false.2 ⟨x, List.mem_of_getElem? hx, by simp [h]⟩
  simp [rotE, rotB, this]
theorem les_no {t u : Tb} {i k : Nat} (hi : i < t.vs.length) (hk : k < (t.vs.getD i []).length) (h : ¬ t.v i k ≤ u.v i k) : lesB t u = false := by
  rw [lesB, List.all_eq_false]
  refine ⟨i, by simpa using hi, ?_⟩
  rw [Bool.not_eq_true, List.all_eq_false]
  exact ⟨k, by simpa using hk, by simpa using h⟩
theorem les_ok {t u : Tb} (h : ∀ i, i < t.vs.length → ∀ k, k < (t.vs.getD i []).length → t.v i k ≤ u.v i k) : lesB t u = true := by
  rw [lesB, List.all_eq_true]
  intro i hi
  rw [List.all_eq_true]
  intro k hk
  exact decide_eq_true (h i (by simpa using hi) k (by simpa using hk))
noncomputable abbrev E73 : Env := { P := Tryz.prog, fn := tbl [(99, .pure limS), (100, .pure eqS), (101, .pure withinS)], own := [], key := 7300, nt := 102, frz := [(1, [1, 50001])] }
theorem b73 : PureBody E73 [(7, ([1, 3], [[0, 1, 2, 3, 4, 5, 6, 7]]))] Tryz.f73 rotS := by
  refine pb ?_
  rintro r hP
  have hL := limL_rows r
  have hlen : (limL r).length = 8 := rfl
  simp -dsimp [Tryz.f73, E73]
  repeat' (first | omega | (simp -dsimp [E73, ri, cellp, ints, hlen]) | (refine Also.intro ?_ fun _ => ?_) | (refine Hold.intro fun _ => ?_) | (refine And.intro ?_ ?_))
  rw [hL]
  refine awp_loop [38, 39, 40, 4, 41, 42, 43, 2, 44, 37] (fun k : { k : Nat // k ≤ 8 ∧ ∀ j x, j < k → (limL r)[j]? = some x → limB x = true } => [(37, (true, .int .i64 k.1))]) (fun k => hps [(7304, { base := k.1, blks := [] }), (7301, roS r)] noH) (fun k => 8 - k.1) ⟨0, by omega, fun _ _ h => by omega⟩ ?_ ?_ ?_
  · simp [okAll, okv]
  · exact (by (try simp -dsimp only [hpush_noH, hpush_hps, hps_over]); refine hle_hps ?_; simp -dsimp [allK, roS]; repeat' (first | (refine And.intro ?_ ?_) | (refine sLe.same ?_ ?_ <;> (simp; done)) | (refine sLe.clear ?_ ?_ <;> (first | (simp; done) | (simp; omega))) | (refine sLe.drop 1 ?_ ?_ ?_ <;> (simp; done))))
  rintro ⟨k, hk, hall⟩
  dsimp only
  by_cases hk1 : k < 8
  · have hki : (k : Int) < 8 := by omega
    have hkl : k < (limL r).length := by omega
    have wk : IntKind.wrap .i64 ((k : Int) + 1) = (k + 1 : Nat) := wrap_id (by omega) (by omega)
    obtain ⟨x, hx, hx'⟩ := get_ex hkl
    have hT := hP.l x (hx' ▸ List.getElem_mem hkl)
    cases hw : limB x
    · have hz := rot_no hx hw
      have hd := liE_dec x
      obtain ⟨t, lo, hi⟩ := x
      simp only at hd hT
      simp -dsimp [hki]
      repeat' (first | omega | (simp -dsimp [E73, ri, cellp, ints, hki, hk1, hkl, hlen, hx, hx', hT, hw, hz, wk, hd, Lim.row, roS]) | (refine Also.intro ?_ fun _ => ?_) | (refine Hold.intro fun _ => ?_) | (refine And.intro ?_ ?_))
    · have hd := liE_dec x
      obtain ⟨t, lo, hi⟩ := x
      simp only at hd hT
      simp -dsimp [hki]
      repeat' (first | omega | (simp -dsimp [E73, ri, cellp, ints, hki, hk1, hkl, hlen, hx, hx', hT, hw, wk, hd, Lim.row, roS]) | (refine Also.intro ?_ fun _ => ?_) | (refine Hold.intro fun _ => ?_) | (refine And.intro ?_ ?_))
      refine ⟨k + 1, tle_chain rfl ?_, ?_, ⟨by omega, fun j y hj hy => ?_⟩, by omega⟩
      · simp [okAll, okv]
      · exact (by (try simp -dsimp only [hpush_noH, hpush_hps, hps_over]); refine hle_hps ?_; simp -dsimp [allK, roS]; repeat' (first | (refine And.intro ?_ ?_) | (refine sLe.same ?_ ?_ <;> (simp; done)) | (refine sLe.clear ?_ ?_ <;> (first | (simp; done) | (simp; omega))) | (refine sLe.drop 1 ?_ ?_ ?_ <;> (simp; done))))
      · by_cases hjk : j = k
        · subst hjk; rw [hx] at hy; cases hy; exact hw
        · exact hall j y (by omega) hy
  have hkn : ((k : Int) < 8) = False := eq_false (by omega)
  have : k = 8 := by omega
  subst this
  have hA : ∀ x ∈ limL r, limB x = true := fun x hx => by
    obtain ⟨j, hj, e⟩ := List.getElem_of_mem hx
    exact hall j x (by omega) (by rw [List.getElem?_eq_getElem hj, e])
  have hAll : (limL r).all limB = true := List.all_eq_true.2 hA
  have a5 : tbB r.rl = true := by have := hA ⟨r.rl, 0, 10000⟩ (by simp [limL]); simp only [limB, Bool.and_eq_true] at this; exact this.1
  have a6 : tbB r.rh = true := by have := hA ⟨r.rh, 0, 10000⟩ (by simp [limL]); simp only [limB, Bool.and_eq_true] at this; exact this.1
  obtain ⟨n1, n2, n3⟩ := tbB_len a5
  obtain ⟨m1, m2, m3⟩ := tbB_len a6
  have r5 := tbB_rows a5
  have r6 := tbB_rows a6
  have l1 : r.rl.xs.length ≤ 1000000 := by omega
  have l2 : r.rl.ys.length ≤ 1000000 := by omega
  have l3 : r.rh.xs.length ≤ 1000000 := by omega
  have l4 : r.rh.ys.length ≤ 1000000 := by omega
  by_cases c1 : r.rl.xs = r.rh.xs
  case neg =>
    have hz : rotE r = 20 := by simp [rotE, rotB, c1]
    simp -dsimp [hkn]
    repeat' (first | omega | (simp -dsimp [E73, ri, cellp, ints, hkn, roS, eqE_dec, c1, l1, l2, l3, l4, hz, FreeAt, FoOk]) | (refine Also.intro ?_ fun _ => ?_) | (refine Hold.intro fun _ => ?_) | (refine And.intro ?_ ?_))
  by_cases c2 : r.rl.ys = r.rh.ys
  case neg =>
    have hz : rotE r = 20 := by simp [rotE, rotB, c2]
    simp -dsimp [hkn]
    repeat' (first | omega | (simp -dsimp [E73, ri, cellp, ints, hkn, roS, eqE_dec, c1, c2, l1, l2, l3, l4, hz, FreeAt, FoOk]) | (refine Also.intro ?_ fun _ => ?_) | (refine Hold.intro fun _ => ?_) | (refine And.intro ?_ ?_))
  cases c3 : withinB r.climb 1 1000
  · have hz : rotE r = 20 := by simp [rotE, rotB, c3]
    simp -dsimp [hkn]
    repeat' (first | omega | (simp -dsimp [E73, ri, cellp, ints, hkn, roS, eqE_dec, c1, c2, c3, l1, l2, l3, l4, hz, FreeAt, FoOk]) | (refine Also.intro ?_ fun _ => ?_) | (refine Hold.intro fun _ => ?_) | (refine And.intro ?_ ?_))
  cases c4 : withinB r.burn 1 1000
  · have hz : rotE r = 20 := by simp [rotE, rotB, c4]
    simp -dsimp [hkn]
    repeat' (first | omega | (simp -dsimp [E73, ri, cellp, ints, hkn, roS, eqE_dec, c1, c2, c3, c4, l1, l2, l3, l4, hz, FreeAt, FoOk]) | (refine Also.intro ?_ fun _ => ?_) | (refine Hold.intro fun _ => ?_) | (refine And.intro ?_ ?_))
  have hz : rotE r = if lesB r.rl r.rh = true then 0 else 20 := by simp [rotE, rotB, c1, c2, c3, c4, hAll]
  simp -dsimp [hkn]
  repeat' (first | omega | (simp -dsimp [E73, ri, cellp, ints, hkn, roS, eqE_dec, c1, c2, c3, c4, l1, l2, l3, l4, FreeAt, FoOk]) | (refine Also.intro ?_ fun _ => ?_) | (refine Hold.intro fun _ => ?_) | (refine And.intro ?_ ?_))
  refine awp_loop [79, 80, 81, 82, 7, 8, 83, 84, 85, 86, 87, 88, 89, 9, 10, 90, 91, 92, 93, 94, 95, 96, 97, 98, 99, 2, 100, 101, 78] (fun k : { k : Nat // k ≤ r.rl.vs.length ∧ ∀ i, i < k → ∀ j, j < (r.rl.vs.getD i []).length → r.rl.v i j ≤ r.rh.v i j } => [(78, (true, .int .i64 k.1))]) (fun _ => hps [(7306, tbS r.rh), (7305, tbS ⟨r.rh.xs, r.rh.ys, r.rl.vs⟩), (7304, { base := 8, blks := [] }), (7301, roS r)] noH) (fun k => r.rl.vs.length - k.1) ⟨0, by omega, fun _ h => by omega⟩ ?_ ?_ ?_
  · simp [okAll, okv]
  · exact (by (try simp -dsimp only [hpush_noH, hpush_hps, hps_over]); refine hle_hps ?_; simp -dsimp [allK, tbS, roS]; repeat' (first | (refine And.intro ?_ ?_) | (refine sLe.same ?_ ?_ <;> (simp; done)) | (refine sLe.clear ?_ ?_ <;> (first | (simp; done) | (simp; omega))) | (refine sLe.drop 1 ?_ ?_ ?_ <;> (simp; done))))
  clear hall
  rintro ⟨k, hk, hall⟩
  dsimp only
  by_cases hk1 : k < r.rl.vs.length
  · have hki : (k : Int) < r.rl.vs.length := by omega
    have wk : IntKind.wrap .i64 ((k : Int) + 1) = (k + 1 : Nat) := wrap_id (by omega) (by omega)
    have hk2 : k < r.rh.vs.length := by rw [m3, ← c1, ← n3]; exact hk1
    obtain ⟨x, hx, hx'⟩ := get_ex hk1
    obtain ⟨y, hy, hy'⟩ := get_ex hk2
    have lx : x.length = r.rl.ys.length := r5 x (hx' ▸ List.getElem_mem hk1)
    have ly : y.length = r.rh.ys.length := r6 y (hy' ▸ List.getElem_mem hk2)
    have hxy : x.length = y.length := by rw [lx, ly, c2]
    have ex : r.rl.vs.getD k [] = x := by simp [List.getD, hx]
    simp -dsimp [hki]
    repeat' (first | omega | (simp -dsimp [E73, ri, cellp, ints, hki, hk1, hk2, hx, hx', hy, hy', rwI, tbS, roS]) | (refine Also.intro ?_ fun _ => ?_) | (refine Hold.intro fun _ => ?_) | (refine And.intro ?_ ?_))
    refine awp_loop [86, 87, 88, 89, 9, 10, 90, 91, 92, 93, 94, 95, 96, 97, 98, 99, 2, 100, 85] (fun j : { j : Nat // j ≤ x.length ∧ ∀ i, i < j → r.rl.v k i ≤ r.rh.v k i } => [(85, (true, .int .i64 j.1))]) (fun _ => hps [(7306, tbS r.rh), (7305, tbS ⟨r.rh.xs, r.rh.ys, r.rl.vs⟩), (7304, { base := 8, blks := [] }), (7301, roS r)] noH) (fun j => x.length - j.1) ⟨0, by omega, fun _ h => by omega⟩ ?_ ?_ ?_
    · simp [okAll, okv]
    · exact (by (try simp -dsimp only [hpush_noH, hpush_hps, hps_over]); refine hle_hps ?_; simp -dsimp [allK, tbS, roS]; repeat' (first | (refine And.intro ?_ ?_) | (refine sLe.same ?_ ?_ <;> (simp; done)) | (refine sLe.clear ?_ ?_ <;> (first | (simp; done) | (simp; omega))) | (refine sLe.drop 1 ?_ ?_ ?_ <;> (simp; done))))
    rintro ⟨j, hj, hin⟩
    dsimp only
    by_cases hj1 : j < x.length
    · have hji : (j : Int) < x.length := by omega
      have wj : IntKind.wrap .i64 ((j : Int) + 1) = (j + 1 : Nat) := wrap_id (by omega) (by omega)
      have hj2 : j < y.length := by omega
      obtain ⟨p, hp, hp'⟩ := get_ex hj1
      obtain ⟨q, hq, hq'⟩ := get_ex hj2
      have vp : r.rl.v k j = p := by simp [Tb.v, List.getD, hx, hp]
      have vq : r.rh.v k j = q := by simp [Tb.v, List.getD, hy, hq]
      by_cases hc : q < p
      · have hz' : rotE r = 20 := by rw [hz, les_no hk1 (by rw [ex]; exact hj1) (by rw [vp, vq]; omega)]; rfl
        simp -dsimp [hji]
        repeat' (first | omega | (simp -dsimp [E73, ri, cellp, ints, hji, hj1, hj2, hki, hk1, hk2, hx, hx', hy, hy', hp, hp', hq, hq', hc, hz', rwI, tbS, roS]) | (refine Also.intro ?_ fun _ => ?_) | (refine Hold.intro fun _ => ?_) | (refine And.intro ?_ ?_))
      · simp -dsimp [hji]
        repeat' (first | omega | (simp -dsimp [E73, ri, cellp, ints, hji, hj1, hj2, hki, hk1, hk2, hx, hx', hy, hy', hp, hp', hq, hq', hc, wj, rwI, tbS, roS]) | (refine Also.intro ?_ fun _ => ?_) | (refine Hold.intro fun _ => ?_) | (refine And.intro ?_ ?_))
        refine ⟨j + 1, tle_chain rfl ?_, ?_, ⟨by omega, fun i hi => ?_⟩, by omega⟩
        · simp [okAll, okv]
        · exact (by (try simp -dsimp only [hpush_noH, hpush_hps, hps_over]); refine hle_hps ?_; simp -dsimp [allK, tbS, roS]; repeat' (first | (refine And.intro ?_ ?_) | (refine sLe.same ?_ ?_ <;> (simp; done)) | (refine sLe.clear ?_ ?_ <;> (first | (simp; done) | (simp; omega))) | (refine sLe.drop 1 ?_ ?_ ?_ <;> (simp; done))))
        · by_cases hij : i = j
          · subst hij; rw [vp, vq]; omega
          · exact hin i (by omega)
    · have hjn : ¬ (j : Int) < x.length := by omega
      simp -dsimp [hjn]
      repeat' (first | omega | (simp -dsimp [E73, ri, cellp, ints, hjn, wk, tbS, roS]) | (refine Also.intro ?_ fun _ => ?_) | (refine Hold.intro fun _ => ?_) | (refine And.intro ?_ ?_))
      refine ⟨k + 1, tle_kept (kept_upds rfl (kept_forget rfl (kept_upds rfl kept_base))) ?_, ?_, ⟨by omega, fun i hi m hm => ?_⟩, by omega⟩
      · simp [okAll, okv]
      · exact (by (try simp -dsimp only [hpush_noH, hpush_hps, hps_over]); refine hle_hps ?_; simp -dsimp [allK, tbS, roS]; repeat' (first | (refine And.intro ?_ ?_) | (refine sLe.same ?_ ?_ <;> (simp; done)) | (refine sLe.clear ?_ ?_ <;> (first | (simp; done) | (simp; omega))) | (refine sLe.drop 1 ?_ ?_ ?_ <;> (simp; done))))
      · by_cases hik : i = k
        · subst hik; rw [← List.getD_eq_getElem?_getD, ex] at hm; exact hin m (by omega)
        · exact hall i (by omega) m (by rw [List.getD_eq_getElem?_getD]; exact hm)
  · have hkn' : ¬ (k : Int) < r.rl.vs.length := by omega
    have hz' : rotE r = 0 := by rw [hz, les_ok fun i hi j hj => hall i (by omega) j hj]; rfl
    simp -dsimp [hkn']
    repeat' (first | omega | (simp -dsimp [E73, ri, cellp, ints, hkn', hz', tbS, roS]) | (refine Also.intro ?_ fun _ => ?_) | (refine Hold.intro fun _ => ?_) | (refine And.intro ?_ ?_))
theorem ok73 : FnOK Tryz.prog 73 (.pure rotS) := pure_fn (E := E73) rfl (.cons ok99 (.cons ok100 (.cons ok101 .nil))) (ok := [(7, ([1, 3], [[0, 1, 2, 3, 4, 5, 6, 7]]))]) (fn := Tryz.f73) (by kernel_rfl) (by kernel_rfl) (by kernel_rfl) (by kernel_rfl) rfl (fun _ _ => by simp) b73
end Go.Sx.Rot
end
section
/- The reference's layer 1: CheckTable. No conditions. -/
set_option linter.unusedSimpArgs false
set_option linter.unusedSectionVars false
set_option maxRecDepth 100000
set_option maxHeartbeats 4000000
namespace Go.Sx.Rot
open Go.Proofs Go.Sx Go.Sx.Tab
attribute [local irreducible] HLe
attribute [local simp] hps_app

noncomputable abbrev E129 : Env := { P := Tryz.prog, fn := tbl [(153, .pure axS), (25, .pure withinS)], own := [], key := 12900, nt := 61 }
theorem b129 : PureBody E129 [] Tryz.f129 ctS := by
  refine pb ?_
  rintro t ⟨bx, by', bv⟩
  have bx' : t.xs.length ≤ 9223372036854775807 := by omega
  have by'' : t.ys.length ≤ 9223372036854775807 := by omega
  cases h1 : axB t.xs
  · have hz : tbB t = false := by simp [tbB, h1]
    simp -dsimp [Tryz.f129, E129, tabR]
    repeat' (first | omega | (simp -dsimp [E129, ri, cellp, ints, bx', by'', h1, inE_dec, hz]) | (refine Also.intro ?_ fun _ => ?_) | (refine Hold.intro fun _ => ?_) | (refine And.intro ?_ ?_))
  cases h2 : axB t.ys
  · have hz : tbB t = false := by simp [tbB, h1, h2]
    simp -dsimp [Tryz.f129, E129, tabR]
    repeat' (first | omega | (simp -dsimp [E129, ri, cellp, ints, bx', by'', h1, h2, inE_dec, hz]) | (refine Also.intro ?_ fun _ => ?_) | (refine Hold.intro fun _ => ?_) | (refine And.intro ?_ ?_))
  by_cases h3 : t.vs.length = t.xs.length
  case neg =>
    have h3' : ((t.vs.length : Int) = t.xs.length) = False := eq_false (by omega)
    have hz : tbB t = false := by simp [tbB, h1, h2, h3]
    simp -dsimp [Tryz.f129, E129, tabR]
    repeat' (first | omega | (simp -dsimp [E129, ri, cellp, ints, bx', by'', h1, h2, h3, h3', inE_dec, hz]) | (refine Also.intro ?_ fun _ => ?_) | (refine Hold.intro fun _ => ?_) | (refine And.intro ?_ ?_))
  have h3' : ((t.vs.length : Int) = t.xs.length) = True := eq_true (by omega)
  have l1 := axB_len h1
  have l2 := axB_len h2
  have hE : tbB t = !t.vs.any (rowBad t) := by simp [tbB, h1, h2, h3]
  simp -dsimp [Tryz.f129, E129, tabR]
  repeat' (first | omega | (simp -dsimp [E129, ri, cellp, ints, bx', by'', h1, h2, h3, h3', inE_dec]) | (refine Also.intro ?_ fun _ => ?_) | (refine Hold.intro fun _ => ?_) | (refine And.intro ?_ ?_))
  refine awp_loop [24, 25, 26, 27, 28, 31, 32, 33, 34, 35, 36, 37, 38, 39, 40, 2, 4, 41, 42, 43, 44, 45, 46, 47, 48, 51, 52, 53, 54, 55, 56, 57, 58, 59, 60, 49, 50, 29, 30, 3] (fun k : { k : Nat // k ≤ t.vs.length ∧ (t.vs.take k).any (rowBad t) = false } => [(3, (true, .int .i64 k.1))]) (fun _ => hps [(12901, tbS t)] noH) (fun k => t.vs.length - k.1) ⟨0, by omega, by simp⟩ ?_ ?_ ?_
  · simp [okAll, okv]
  · exact (by (try simp -dsimp only [hpush_noH, hpush_hps, hps_over]); refine hle_hps ?_; simp -dsimp [allK, tbS]; repeat' (first | (refine And.intro ?_ ?_) | (refine sLe.same ?_ ?_ <;> (simp; done)) | (refine sLe.clear ?_ ?_ <;> (first | (simp; done) | (simp; omega))) | (refine sLe.drop 1 ?_ ?_ ?_ <;> (simp; done))))
  rintro ⟨k, hk, hall⟩
  dsimp only
  by_cases hk1 : k < t.vs.length
  · have hki : (k : Int) < t.vs.length := by omega
    have wk : IntKind.wrap .i64 ((k : Int) + 1) = (k + 1 : Nat) := wrap_id (by omega) (by omega)
    obtain ⟨x, hx, hx'⟩ := get_ex hk1
    have hB : rowBad t x = true → tbB t = false := fun h => by
      rw [hE, List.any_eq_true.2 ⟨x, hx' ▸ List.getElem_mem hk1, h⟩]; rfl
    have hG : rowBad t x = false → (t.vs.take (k + 1)).any (rowBad t) = false := fun h => by
      rw [List.take_add_one, List.any_append, hall, hx]; simp [h]
    by_cases c : x.length = t.ys.length
    case neg =>
      have hz := hB (by simp [rowBad, c])
      have ci : ((x.length : Int) = t.ys.length) = False := eq_false (by omega)
      simp -dsimp [hki]
      repeat' (first | omega | (simp -dsimp [E129, ri, cellp, ints, hki, hk1, hx, hx', rwI, tbS, c, ci, hz]) | (refine Also.intro ?_ fun _ => ?_) | (refine Hold.intro fun _ => ?_) | (refine And.intro ?_ ?_))
    have ci : ((x.length : Int) = t.ys.length) = True := eq_true (by omega)
    simp -dsimp [hki]
    repeat' (first | omega | (simp -dsimp [E129, ri, cellp, ints, hki, hk1, hx, hx', rwI, tbS, c, ci]) | (refine Also.intro ?_ fun _ => ?_) | (refine Hold.intro fun _ => ?_) | (refine And.intro ?_ ?_))
    refine awp_loop [41, 42, 43, 44, 45, 46, 47, 48, 51, 52, 53, 54, 55, 56, 57, 58, 59, 60, 2, 49, 50, 4] (fun j : { j : Nat // j ≤ x.length ∧ (x.take j).any far6 = false } => [(4, (true, .int .i64 j.1))]) (fun _ => hps [(12901, tbS t)] noH) (fun j => x.length - j.1) ⟨0, by omega, by simp⟩ ?_ ?_ ?_
    · simp [okAll, okv]
    · exact (by (try simp -dsimp only [hpush_noH, hpush_hps, hps_over]); refine hle_hps ?_; simp -dsimp [allK, tbS]; repeat' (first | (refine And.intro ?_ ?_) | (refine sLe.same ?_ ?_ <;> (simp; done)) | (refine sLe.clear ?_ ?_ <;> (first | (simp; done) | (simp; omega))) | (refine sLe.drop 1 ?_ ?_ ?_ <;> (simp; done))))
    rintro ⟨j, hj, hin⟩
    dsimp only
    by_cases hj1 : j < x.length
    · have hji : (j : Int) < x.length := by omega
      have wj : IntKind.wrap .i64 ((j : Int) + 1) = (j + 1 : Nat) := wrap_id (by omega) (by omega)
      obtain ⟨p, hp, hp'⟩ := get_ex hj1
      have hf : far6 p = !withinB p (-1000000) 1000000 := rfl
      have hjc : (j : Int) < t.ys.length := by omega
      cases hw : withinB p (-1000000) 1000000
      · have hz := hB (by
          rw [rowBad, Bool.or_eq_true]
          exact .inr (List.any_eq_true.2 ⟨p, hp' ▸ List.getElem_mem hj1, by rw [hf, hw]; rfl⟩))
        simp -dsimp [hji]
        repeat' (first | omega | (simp -dsimp [E129, ri, cellp, ints, hji, hjc, hj1, hki, hk1, hx, hx', hp, hp', rwI, tbS, c, ci, hw, hz]) | (refine Also.intro ?_ fun _ => ?_) | (refine Hold.intro fun _ => ?_) | (refine And.intro ?_ ?_))
      · simp -dsimp [hji]
        repeat' (first | omega | (simp -dsimp [E129, ri, cellp, ints, hji, hjc, hj1, hki, hk1, hx, hx', hp, hp', rwI, tbS, c, ci, hw, wj]) | (refine Also.intro ?_ fun _ => ?_) | (refine Hold.intro fun _ => ?_) | (refine And.intro ?_ ?_))
        refine ⟨j + 1, tle_chain rfl ?_, ?_, ⟨by omega, ?_⟩, by omega⟩
        · simp [okAll, okv]
        · exact (by (try simp -dsimp only [hpush_noH, hpush_hps, hps_over]); refine hle_hps ?_; simp -dsimp [allK, tbS]; repeat' (first | (refine And.intro ?_ ?_) | (refine sLe.same ?_ ?_ <;> (simp; done)) | (refine sLe.clear ?_ ?_ <;> (first | (simp; done) | (simp; omega))) | (refine sLe.drop 1 ?_ ?_ ?_ <;> (simp; done))))
        · have hj' : (x.take (j + 1)).any far6 = false := by rw [List.take_add_one, List.any_append, hin, hp]; simp [hf, hw]
          simpa using hj'
    · have hjn : ¬ (j : Int) < x.length := by omega
      have hjc : ¬ (j : Int) < t.ys.length := by omega
      have hj2 : j = x.length := by omega
      simp -dsimp [hjn]
      repeat' (first | omega | (simp -dsimp [E129, ri, cellp, ints, hjn, hjc, hki, hk1, hx, hx', c, ci, wk, rwI, tbS]) | (refine Also.intro ?_ fun _ => ?_) | (refine Hold.intro fun _ => ?_) | (refine And.intro ?_ ?_))
      refine ⟨k + 1, tle_kept (kept_upds rfl (kept_forget rfl (kept_upds rfl kept_base))) ?_, ?_, ⟨by omega, ?_⟩, by omega⟩
      · simp [okAll, okv]
      · exact (by (try simp -dsimp only [hpush_noH, hpush_hps, hps_over]); refine hle_hps ?_; simp -dsimp [allK, tbS]; repeat' (first | (refine And.intro ?_ ?_) | (refine sLe.same ?_ ?_ <;> (simp; done)) | (refine sLe.clear ?_ ?_ <;> (first | (simp; done) | (simp; omega))) | (refine sLe.drop 1 ?_ ?_ ?_ <;> (simp; done))))
      · rw [hj2, List.take_length] at hin
        have := hG (by rw [rowBad, hin, decide_eq_true c]; rfl)
        simpa using this
  · have hkn : ¬ (k : Int) < t.vs.length := by omega
    have hk2 : k = t.vs.length := by omega
    have hz : tbB t = true := by rw [hk2, List.take_length] at hall; rw [hE, hall]; rfl
    have h3k : ((k : Int) < t.xs.length) = False := eq_false (by omega)
    simp -dsimp [hkn]
    repeat' (first | omega | (simp -dsimp [E129, ri, cellp, ints, hkn, h3k, hz, tbS]) | (refine Also.intro ?_ fun _ => ?_) | (refine Hold.intro fun _ => ?_) | (refine And.intro ?_ ?_))
theorem ok129 : FnOK Tryz.prog 129 (.pure ctS) := pure_fn (E := E129) rfl (.cons ok153 (.cons ok25 .nil)) (ok := []) (fn := Tryz.f129) (by kernel_rfl) (by kernel_rfl) (by kernel_rfl) (by kernel_rfl) rfl (fun _ _ => by simp) b129
end Go.Sx.Rot
end
