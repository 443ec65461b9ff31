/- A part of a proof; no conditions. -/
import Derived.Test.YtjpmoggimhmidaaGreatP34
import Derived.Test.YtjpmoggimhmidaaGreatP35
set_option linter.unusedSimpArgs false
set_option linter.unusedVariables false
set_option linter.unusedSectionVars false
section
/- The reference's layer 2: Check. No conditions. -/
set_option linter.unusedSimpArgs false
set_option linter.unusedSectionVars false
set_option maxRecDepth 100000
set_option maxHeartbeats 8000000
namespace Go.Sx.Rot
open Go.Proofs Go.Sx Go.Sx.Tab
attribute [local irreducible] HLe
attribute [local simp] hps_app

@[simp] theorem ro_15 (r : Ro) : r.row[15]? = some (.sl 1 (r.rl.xs.map ri)) := rfl
@[simp] theorem ro_16 (r : Ro) : r.row[16]? = some (.sl 1 (r.rl.ys.map ri)) := rfl
@[simp] theorem ro_17 (r : Ro) : r.row[17]? = some (.sl 1 (r.rl.vs.map rwI)) := rfl
@[simp] theorem ro_18 (r : Ro) : r.row[18]? = some (.sl 1 (r.rh.xs.map ri)) := rfl
@[simp] theorem ro_19 (r : Ro) : r.row[19]? = some (.sl 1 (r.rh.ys.map ri)) := rfl
@[simp] theorem ro_20 (r : Ro) : r.row[20]? = some (.sl 1 (r.rh.vs.map rwI)) := rfl
noncomputable abbrev E91 : Env := { P := Tryz.prog, fn := tbl [(113, .pure fiS), (114, .pure eqS), (115, .pure withinS)], own := [], key := 9100, nt := 114 }
theorem b91 : PureBody E91 [] Tryz.f91 rotS := by
  refine pb ?_
  rintro r hP
  have p0 : TbP r.h := hP.l ⟨r.h, 0, 100000⟩ (by simp [limL])
  have p1 : TbP r.g := hP.l ⟨r.g, 0, 100⟩ (by simp [limL])
  have p2 : TbP r.l := hP.l ⟨r.l, 0, 100000⟩ (by simp [limL])
  have p3 : TbP r.p := hP.l ⟨r.p, 0, 100000⟩ (by simp [limL])
  have p4 : TbP r.n := hP.l ⟨r.n, 0, 10000⟩ (by simp [limL])
  have p5 : TbP r.rl := hP.l ⟨r.rl, 0, 10000⟩ (by simp [limL])
  have p6 : TbP r.rh := hP.l ⟨r.rh, 0, 10000⟩ (by simp [limL])
  have p7 : TbP r.gl := hP.l ⟨r.gl, 1, 10000⟩ (by simp [limL])
  cases c0 : limB ⟨r.h, 0, 100000⟩
  · have hz := rot_no (r := r) (k := 0) rfl c0
    simp -dsimp [Tryz.f91, E91]
    repeat' (first | omega | (simp -dsimp [E91, ri, cellp, ints, fiE_dec, p0, c0, hz]) | (refine Also.intro ?_ fun _ => ?_) | (refine Hold.intro fun _ => ?_) | (refine And.intro ?_ ?_))
  cases c1 : limB ⟨r.g, 0, 100⟩
  · have hz := rot_no (r := r) (k := 1) rfl c1
    simp -dsimp [Tryz.f91, E91]
    repeat' (first | omega | (simp -dsimp [E91, ri, cellp, ints, fiE_dec, p0, c0, p1, c1, hz]) | (refine Also.intro ?_ fun _ => ?_) | (refine Hold.intro fun _ => ?_) | (refine And.intro ?_ ?_))
  cases c2 : limB ⟨r.l, 0, 100000⟩
  · have hz := rot_no (r := r) (k := 2) rfl c2
    simp -dsimp [Tryz.f91, E91]
    repeat' (first | omega | (simp -dsimp [E91, ri, cellp, ints, fiE_dec, p0, c0, p1, c1, p2, c2, hz]) | (refine Also.intro ?_ fun _ => ?_) | (refine Hold.intro fun _ => ?_) | (refine And.intro ?_ ?_))
  cases c3 : limB ⟨r.p, 0, 100000⟩
  · have hz := rot_no (r := r) (k := 3) rfl c3
    simp -dsimp [Tryz.f91, E91]
    repeat' (first | omega | (simp -dsimp [E91, ri, cellp, ints, fiE_dec, p0, c0, p1, c1, p2, c2, p3, c3, hz]) | (refine Also.intro ?_ fun _ => ?_) | (refine Hold.intro fun _ => ?_) | (refine And.intro ?_ ?_))
  cases c4 : limB ⟨r.n, 0, 10000⟩
  · have hz := rot_no (r := r) (k := 4) rfl c4
    simp -dsimp [Tryz.f91, E91]
    repeat' (first | omega | (simp -dsimp [E91, ri, cellp, ints, fiE_dec, p0, c0, p1, c1, p2, c2, p3, c3, p4, c4, hz]) | (refine Also.intro ?_ fun _ => ?_) | (refine Hold.intro fun _ => ?_) | (refine And.intro ?_ ?_))
  cases c5 : limB ⟨r.rl, 0, 10000⟩
  · have hz := rot_no (r := r) (k := 5) rfl c5
    simp -dsimp [Tryz.f91, E91]
    repeat' (first | omega | (simp -dsimp [E91, ri, cellp, ints, fiE_dec, p0, c0, p1, c1, p2, c2, p3, c3, p4, c4, p5, c5, hz]) | (refine Also.intro ?_ fun _ => ?_) | (refine Hold.intro fun _ => ?_) | (refine And.intro ?_ ?_))
  cases c6 : limB ⟨r.rh, 0, 10000⟩
  · have hz := rot_no (r := r) (k := 6) rfl c6
    simp -dsimp [Tryz.f91, E91]
    repeat' (first | omega | (simp -dsimp [E91, ri, cellp, ints, fiE_dec, p0, c0, p1, c1, p2, c2, p3, c3, p4, c4, p5, c5, p6, c6, hz]) | (refine Also.intro ?_ fun _ => ?_) | (refine Hold.intro fun _ => ?_) | (refine And.intro ?_ ?_))
  cases c7 : limB ⟨r.gl, 1, 10000⟩
  · have hz := rot_no (r := r) (k := 7) rfl c7
    simp -dsimp [Tryz.f91, E91]
    repeat' (first | omega | (simp -dsimp [E91, ri, cellp, ints, fiE_dec, p0, c0, p1, c1, p2, c2, p3, c3, p4, c4, p5, c5, p6, c6, p7, c7, hz]) | (refine Also.intro ?_ fun _ => ?_) | (refine Hold.intro fun _ => ?_) | (refine And.intro ?_ ?_))
  have hAll : (limL r).all limB = true := by simp [limL, c0, c1, c2, c3, c4, c5, c6, c7]
  have a5 : tbB r.rl = true := by simp only [limB, Bool.and_eq_true] at c5; exact c5.1
  have a6 : tbB r.rh = true := by simp only [limB, Bool.and_eq_true] at c6; exact c6.1
  obtain ⟨n1, n2, n3⟩ := tbB_len a5
  obtain ⟨m1, m2, m3⟩ := tbB_len a6
  have r5 := tbB_rows a5
  have r6 := tbB_rows a6
  have l1 : r.rl.xs.length ≤ 1000000 := by omega
  have l2 : r.rl.ys.length ≤ 1000000 := by omega
  have l3 : r.rh.xs.length ≤ 1000000 := by omega
  have l4 : r.rh.ys.length ≤ 1000000 := by omega
  by_cases d1 : r.rl.xs = r.rh.xs
  case neg =>
    have hz : rotE r = 20 := by simp [rotE, rotB, d1]
    simp -dsimp [Tryz.f91, E91]
    repeat' (first | omega | (simp -dsimp [E91, ri, cellp, ints, fiE_dec, p0, c0, p1, c1, p2, c2, p3, c3, p4, c4, p5, c5, p6, c6, p7, c7, eqE_dec, d1, l1, l2, l3, l4, hz]) | (refine Also.intro ?_ fun _ => ?_) | (refine Hold.intro fun _ => ?_) | (refine And.intro ?_ ?_))
  have d1' := eq_true d1
  by_cases d2 : r.rl.ys = r.rh.ys
  case neg =>
    have hz : rotE r = 20 := by simp [rotE, rotB, d2]
    simp -dsimp [Tryz.f91, E91]
    repeat' (first | omega | (simp -dsimp [E91, ri, cellp, ints, fiE_dec, p0, c0, p1, c1, p2, c2, p3, c3, p4, c4, p5, c5, p6, c6, p7, c7, eqE_dec, l1, l2, l3, l4, d1', d2, hz]) | (refine Also.intro ?_ fun _ => ?_) | (refine Hold.intro fun _ => ?_) | (refine And.intro ?_ ?_))
  have d2' := eq_true d2
  cases g1 : withinB r.climb 1 1000
  · have hz : rotE r = 20 := by simp [rotE, rotB, g1]
    simp -dsimp [Tryz.f91, E91]
    repeat' (first | omega | (simp -dsimp [E91, ri, cellp, ints, fiE_dec, p0, c0, p1, c1, p2, c2, p3, c3, p4, c4, p5, c5, p6, c6, p7, c7, eqE_dec, l1, l2, l3, l4, d1', d2', g1, hz]) | (refine Also.intro ?_ fun _ => ?_) | (refine Hold.intro fun _ => ?_) | (refine And.intro ?_ ?_))
  cases g2 : withinB r.burn 1 1000
  · have hz : rotE r = 20 := by simp [rotE, rotB, g2]
    simp -dsimp [Tryz.f91, E91]
    repeat' (first | omega | (simp -dsimp [E91, ri, cellp, ints, fiE_dec, p0, c0, p1, c1, p2, c2, p3, c3, p4, c4, p5, c5, p6, c6, p7, c7, eqE_dec, l1, l2, l3, l4, d1', d2', g1, g2, hz]) | (refine Also.intro ?_ fun _ => ?_) | (refine Hold.intro fun _ => ?_) | (refine And.intro ?_ ?_))
  have hz : rotE r = if lesB r.rl r.rh = true then 0 else 20 := by simp [rotE, rotB, d1, d2, g1, g2, hAll]
  simp -dsimp [Tryz.f91, E91]
  repeat' (first | omega | (simp -dsimp [E91, ri, cellp, ints, fiE_dec, p0, c0, p1, c1, p2, c2, p3, c3, p4, c4, p5, c5, p6, c6, p7, c7, eqE_dec, l1, l2, l3, l4, d1', d2', g1, g2]) | (refine Also.intro ?_ fun _ => ?_) | (refine Hold.intro fun _ => ?_) | (refine And.intro ?_ ?_))
  refine awp_loop [79, 80, 81, 82, 83, 84, 4, 87, 88, 89, 90, 91, 92, 95, 96, 97, 98, 99, 100, 101, 102, 103, 104, 105, 106, 107, 108, 109, 110, 111, 112, 113, 2, 93, 94, 85, 86, 3] (fun k : { k : Nat // k ≤ r.rl.xs.length ∧ ∀ i, i < k → ∀ j, j < (r.rl.vs.getD i []).length → r.rl.v i j ≤ r.rh.v i j } => [(3, (true, .int .i64 k.1))]) (fun _ => hps [(9101, roS0 r)] noH) (fun k => r.rl.xs.length - k.1) ⟨0, by omega, fun _ h => by omega⟩ ?_ ?_ ?_
  · simp [okAll, okv]
  · exact (by (try simp -dsimp only [hpush_noH, hpush_hps, hps_over]); refine hle_hps ?_; simp -dsimp [allK, roS0]; repeat' (first | (refine And.intro ?_ ?_) | (refine sLe.same ?_ ?_ <;> (simp; done)) | (refine sLe.clear ?_ ?_ <;> (first | (simp; done) | (simp; omega))) | (refine sLe.drop 1 ?_ ?_ ?_ <;> (simp; done))))
  rintro ⟨k, hk, hall⟩
  dsimp only
  by_cases hk1 : k < r.rl.xs.length
  · have hki : (k : Int) < r.rl.xs.length := by omega
    have wk : IntKind.wrap .i64 ((k : Int) + 1) = (k + 1 : Nat) := wrap_id (by omega) (by omega)
    have hkv : k < r.rl.vs.length := by omega
    have hk2 : k < r.rh.vs.length := by rw [m3, ← d1]; exact hk1
    obtain ⟨x, hx, hx'⟩ := get_ex hkv
    obtain ⟨y, hy, hy'⟩ := get_ex hk2
    have lx : x.length = r.rl.ys.length := r5 x (hx' ▸ List.getElem_mem hkv)
    have ly : y.length = r.rh.ys.length := r6 y (hy' ▸ List.getElem_mem hk2)
    have hxy : x.length = y.length := by rw [lx, ly, d2]
    have ex : r.rl.vs.getD k [] = x := by simp [List.getD, hx]
    simp -dsimp [hki]
    repeat' (first | omega | (simp -dsimp [E91, ri, cellp, ints, hki, hk1, hkv, hk2, hx, hx', hy, hy', rwI, roS0]) | (refine Also.intro ?_ fun _ => ?_) | (refine Hold.intro fun _ => ?_) | (refine And.intro ?_ ?_))
    refine awp_loop [87, 88, 89, 90, 91, 92, 95, 96, 97, 98, 99, 100, 101, 102, 103, 104, 105, 106, 107, 108, 109, 110, 111, 112, 113, 2, 93, 94, 4] (fun j : { j : Nat // j ≤ r.rl.ys.length ∧ ∀ i, i < j → r.rl.v k i ≤ r.rh.v k i } => [(4, (true, .int .i64 j.1))]) (fun _ => hps [(9101, roS0 r)] noH) (fun j => r.rl.ys.length - j.1) ⟨0, by omega, fun _ h => by omega⟩ ?_ ?_ ?_
    · simp [okAll, okv]
    · exact (by (try simp -dsimp only [hpush_noH, hpush_hps, hps_over]); refine hle_hps ?_; simp -dsimp [allK, roS0]; repeat' (first | (refine And.intro ?_ ?_) | (refine sLe.same ?_ ?_ <;> (simp; done)) | (refine sLe.clear ?_ ?_ <;> (first | (simp; done) | (simp; omega))) | (refine sLe.drop 1 ?_ ?_ ?_ <;> (simp; done))))
    rintro ⟨j, hj, hin⟩
    dsimp only
    by_cases hj1 : j < r.rl.ys.length
    · have hji : (j : Int) < r.rl.ys.length := by omega
      have wj : IntKind.wrap .i64 ((j : Int) + 1) = (j + 1 : Nat) := wrap_id (by omega) (by omega)
      have hjx : j < x.length := by omega
      have hj2 : j < y.length := by omega
      obtain ⟨p, hp, hp'⟩ := get_ex hjx
      obtain ⟨q, hq, hq'⟩ := get_ex hj2
      have vp : r.rl.v k j = p := by simp [Tb.v, List.getD, hx, hp]
      have vq : r.rh.v k j = q := by simp [Tb.v, List.getD, hy, hq]
      by_cases hc : q < p
      · have hz' : rotE r = 20 := by rw [hz, les_no hkv (by rw [ex]; exact hjx) (by rw [vp, vq]; omega)]; rfl
        simp -dsimp [hji]
        repeat' (first | omega | (simp -dsimp [E91, ri, cellp, ints, hji, hj1, hjx, hj2, hki, hk1, hkv, hk2, hx, hx', hy, hy', hp, hp', hq, hq', hc, hz', rwI, roS0]) | (refine Also.intro ?_ fun _ => ?_) | (refine Hold.intro fun _ => ?_) | (refine And.intro ?_ ?_))
      · simp -dsimp [hji]
        repeat' (first | omega | (simp -dsimp [E91, ri, cellp, ints, hji, hj1, hjx, hj2, hki, hk1, hkv, hk2, hx, hx', hy, hy', hp, hp', hq, hq', hc, wj, rwI, roS0]) | (refine Also.intro ?_ fun _ => ?_) | (refine Hold.intro fun _ => ?_) | (refine And.intro ?_ ?_))
        refine ⟨j + 1, tle_chain rfl ?_, ?_, ⟨by omega, fun i hi => ?_⟩, by omega⟩
        · simp [okAll, okv]
        · exact (by (try simp -dsimp only [hpush_noH, hpush_hps, hps_over]); refine hle_hps ?_; simp -dsimp [allK, roS0]; repeat' (first | (refine And.intro ?_ ?_) | (refine sLe.same ?_ ?_ <;> (simp; done)) | (refine sLe.clear ?_ ?_ <;> (first | (simp; done) | (simp; omega))) | (refine sLe.drop 1 ?_ ?_ ?_ <;> (simp; done))))
        · by_cases hij : i = j
          · subst hij; rw [vp, vq]; omega
          · exact hin i (by omega)
    · have hjn : ¬ (j : Int) < r.rl.ys.length := by omega
      simp -dsimp [hjn]
      repeat' (first | omega | (simp -dsimp [E91, ri, cellp, ints, hjn, wk, roS0]) | (refine Also.intro ?_ fun _ => ?_) | (refine Hold.intro fun _ => ?_) | (refine And.intro ?_ ?_))
      refine ⟨k + 1, tle_kept (kept_upds rfl (kept_forget rfl (kept_upds rfl kept_base))) ?_, ?_, ⟨by omega, fun i hi m hm => ?_⟩, by omega⟩
      · simp [okAll, okv]
      · exact (by (try simp -dsimp only [hpush_noH, hpush_hps, hps_over]); refine hle_hps ?_; simp -dsimp [allK, roS0]; repeat' (first | (refine And.intro ?_ ?_) | (refine sLe.same ?_ ?_ <;> (simp; done)) | (refine sLe.clear ?_ ?_ <;> (first | (simp; done) | (simp; omega))) | (refine sLe.drop 1 ?_ ?_ ?_ <;> (simp; done))))
      · by_cases hik : i = k
        · subst hik; rw [← List.getD_eq_getElem?_getD, ex] at hm; exact hin m (by omega)
        · exact hall i (by omega) m (by rw [List.getD_eq_getElem?_getD]; exact hm)
  · have hkn' : ¬ (k : Int) < r.rl.xs.length := by omega
    have hz' : rotE r = 0 := by rw [hz, les_ok fun i hi j hj => hall i (by omega) j hj]; rfl
    simp -dsimp [hkn']
    repeat' (first | omega | (simp -dsimp [E91, ri, cellp, ints, hkn', hz', roS0]) | (refine Also.intro ?_ fun _ => ?_) | (refine Hold.intro fun _ => ?_) | (refine And.intro ?_ ?_))
theorem ok91 : FnOK Tryz.prog 91 (.pure rotS) := pure_fn (E := E91) rfl (.cons ok113 (.cons ok114 (.cons ok115 .nil))) (ok := []) (fn := Tryz.f91) (by kernel_rfl) (by kernel_rfl) (by kernel_rfl) (by kernel_rfl) rfl (fun _ _ => by simp) b91
end Go.Sx.Rot
end
section
/- The reference's layer 2: CheckAir, lies, bound, up. No conditions. -/
set_option linter.unusedSimpArgs false
set_option linter.unusedSectionVars false
set_option maxRecDepth 100000
set_option maxHeartbeats 8000000
namespace Go.Sx.Rot
open Go.Proofs Go.Sx Go.Sx.Tab
attribute [local irreducible] HLe
attribute [local simp] hps_app

def airE (m : Ma) : Int := if rotB m.r = true then (if (aiL m.a).any spN = true then 21 else 0) else 20
@[simp] def arE (m : Ma) : List V := [.agg m.r.row, .agg m.a.row]
theorem arE_inj (a b : Ma) (h : arE a = arE b) : a = b := by
  obtain ⟨a1, a2⟩ := a; obtain ⟨b1, b2⟩ := b
  simp only [arE, List.cons.injEq, V.agg.injEq, and_true] at h
  rw [show a1 = b1 from Ro.row_inj _ _ h.1, show a2 = b2 from Ai.row_inj _ _ h.2]
theorem arE_dec (m : Ma) : decC arE [.agg m.r.row, .agg m.a.row] = m := decC_eq arE_inj m
noncomputable abbrev airS : PSpec := mkP arE (fun m => RoP m.r) fun m => .int .i64 (airE m)
noncomputable abbrev E63 : Env := { P := Tryz.prog, fn := tbl [(91, .pure rotS), (13, .pure valS)], own := [], key := 6300, nt := 33 }
theorem b63 : PureBody E63 [] Tryz.f63 airS := by
  refine pb ?_
  rintro m hP
  have hE : rotE m.r = if rotB m.r = true then 0 else 20 := rfl
  cases h1 : rotB m.r
  · have hz : airE m = 20 := by simp [airE, h1]
    rw [h1] at hE
    simp -dsimp at hE
    simp -dsimp [Tryz.f63, E63]
    repeat' (first | omega | (simp -dsimp [E63, ri, cellp, ints, roE_dec, hP, hE, hz]) | (refine Also.intro ?_ fun _ => ?_) | (refine Hold.intro fun _ => ?_) | (refine And.intro ?_ ?_))
  rw [h1] at hE
  simp -dsimp at hE
  have d (x : Sp) : decC spE [.agg [.int .i64 x.lo, .int .i64 x.hi]] = x := spE_dec x
  cases e1 : spN m.a.w
  case true =>
    have hz : airE m = 21 := by simp [airE, h1, aiL, e1]
    simp -dsimp [Tryz.f63, E63]
    repeat' (first | omega | (simp -dsimp [E63, ri, cellp, ints, roE_dec, hP, hE, d, Sp.row, e1, hz]) | (refine Also.intro ?_ fun _ => ?_) | (refine Hold.intro fun _ => ?_) | (refine And.intro ?_ ?_))
  cases e2 : spN m.a.t
  case true =>
    have hz : airE m = 21 := by simp [airE, h1, aiL, e2]
    simp -dsimp [Tryz.f63, E63]
    repeat' (first | omega | (simp -dsimp [E63, ri, cellp, ints, roE_dec, hP, hE, d, Sp.row, e1, e2, hz]) | (refine Also.intro ?_ fun _ => ?_) | (refine Hold.intro fun _ => ?_) | (refine And.intro ?_ ?_))
  cases e3 : spN m.a.h
  case true =>
    have hz : airE m = 21 := by simp [airE, h1, aiL, e3]
    simp -dsimp [Tryz.f63, E63]
    repeat' (first | omega | (simp -dsimp [E63, ri, cellp, ints, roE_dec, hP, hE, d, Sp.row, e1, e2, e3, hz]) | (refine Also.intro ?_ fun _ => ?_) | (refine Hold.intro fun _ => ?_) | (refine And.intro ?_ ?_))
  cases e4 : spN m.a.v
  all_goals
    have hz : airE m = if spN m.a.v = true then 21 else 0 := by simp [airE, h1, aiL, e1, e2, e3]
    rw [e4] at hz
    simp -dsimp at hz
    simp -dsimp [Tryz.f63, E63]
    repeat' (first | omega | (simp -dsimp [E63, ri, cellp, ints, roE_dec, hP, hE, d, Sp.row, e1, e2, e3, e4, hz]) | (refine Also.intro ?_ fun _ => ?_) | (refine Hold.intro fun _ => ?_) | (refine And.intro ?_ ?_))
theorem ok63 : FnOK Tryz.prog 63 (.pure airS) := pure_fn (E := E63) rfl (.cons ok91 (.cons ok13 .nil)) (ok := []) (fn := Tryz.f63) (by kernel_rfl) (by kernel_rfl) (by kernel_rfl) (by kernel_rfl) rfl (fun _ _ => by simp) b63
def lyB (d : BdD) : Bool := !spN d.a && (!spN d.b && lkB d)
noncomputable abbrev lyS : PSpec := mkP bdE LkP fun d => .bool (lyB d)
noncomputable abbrev E64 : Env := { P := Tryz.prog, fn := tbl [(13, .pure valS), (92, .pure lieS)], own := [], key := 6400, nt := 25 }
theorem b64 : PureBody E64 [] Tryz.f64 lyS := by
  refine pb ?_
  rintro ⟨t, a, b⟩ ⟨h0, h1, h2, h3⟩
  simp only at h0 h1 h2 h3
  have d1 := lsE_dec t.xs a
  have d2 := lsE_dec t.ys b
  have hz : lyB ⟨t, a, b⟩ = (!spN a && (!spN b && (lieB t.xs a && lieB t.ys b))) := rfl
  cases e1 : spN a <;> cases e2 : spN b <;> cases e3 : lieB t.xs a
  all_goals
    simp -dsimp [Tryz.f64, E64, tabR, Sp.row]
    repeat' (first | omega | (simp -dsimp [E64, ri, cellp, ints, tabR, Sp.row, spE_dec, d1, d2, h0, h1, h2, h3, e1, e2, e3, hz]) | (refine Also.intro ?_ fun _ => ?_) | (refine Hold.intro fun _ => ?_) | (refine And.intro ?_ ?_))
theorem ok64 : FnOK Tryz.prog 64 (.pure lyS) := pure_fn (E := E64) rfl (.cons ok13 (.cons ok92 .nil)) (ok := []) (fn := Tryz.f64) (by kernel_rfl) (by kernel_rfl) (by kernel_rfl) (by kernel_rfl) rfl (fun _ _ => by simp) b64
noncomputable abbrev rb2S : PSpec := mkP bdE (fun d => TbP d.t) fun d => .agg (bndF d).row
noncomputable abbrev E66 : Env := { P := Tryz.prog, fn := tbl [(94, .pure rbndS)], own := [], key := 6600, nt := 17 }
theorem b66 : PureBody E66 [] Tryz.f66 rb2S := by
  refine pb ?_
  rintro ⟨t, a, b⟩ hP
  have hP : TbP t := hP
  have hd := bdE_dec t a b
  by_cases h0 : bdErr ⟨t, a, b⟩ = 0
  · have hz : bndF ⟨t, a, b⟩ = boundF ⟨t, a, b⟩ := by simp [bndF, h0]
    simp -dsimp [Tryz.f66, E66, tabR, Sp.row]
    repeat' (first | omega | (simp -dsimp [E66, ri, cellp, ints, tabR, hP, hd, h0, hz, Sp.row]) | (refine Also.intro ?_ fun _ => ?_) | (refine Hold.intro fun _ => ?_) | (refine And.intro ?_ ?_))
  · have hz : bndF ⟨t, a, b⟩ = ⟨0, 0⟩ := by simp [bndF, h0]
    simp -dsimp [Tryz.f66, E66, tabR, Sp.row]
    repeat' (first | omega | (simp -dsimp [E66, ri, cellp, ints, tabR, hP, hd, h0, hz, Sp.row]) | (refine Also.intro ?_ fun _ => ?_) | (refine Hold.intro fun _ => ?_) | (refine And.intro ?_ ?_))
theorem ok66 : FnOK Tryz.prog 66 (.pure rb2S) := pure_fn (E := E66) rfl (.cons ok94 .nil) (ok := []) (fn := Tryz.f66) (by kernel_rfl) (by kernel_rfl) (by kernel_rfl) (by kernel_rfl) rfl (fun _ _ => by simp) b66
end Go.Sx.Rot
end
section
/- The reference's layer 2: needs. No conditions. -/
set_option linter.unusedSimpArgs false
set_option linter.unusedSectionVars false
set_option maxRecDepth 100000
set_option maxHeartbeats 8000000
namespace Go.Sx.Rot
open Go.Proofs Go.Sx Go.Sx.Tab
attribute [local irreducible] HLe
attribute [local simp] hps_app

noncomputable abbrev upwS : PSpec := mkP i2E (fun d => -1000000000000 ≤ d.1 ∧ d.1 ≤ 1000000000000 ∧ d.2 = 100) fun d => .int .i64 ((d.1 + 99).tdiv 100)
noncomputable abbrev E93 : Env := { P := Tryz.prog, fn := tbl [], own := [], key := 9300, nt := 11 }
theorem b93 : PureBody E93 [] Tryz.f93 upwS := by
  refine pb ?_
  rintro ⟨n, w⟩ ⟨h1, h2, h3⟩
  simp only at h1 h2 h3
  subst h3
  have t2 := tdB (n := n + 99) (by omega) (by omega)
  have w1 : IntKind.wrap .i64 (n + 100) = n + 100 := wrap_id (by omega) (by omega)
  have w2 : IntKind.wrap .i64 (n + 100 - 1) = n + 99 := by rw [wrap_id (by omega) (by omega)]; omega
  have w3 : IntKind.wrap .i64 ((n + 99).tdiv 100) = (n + 99).tdiv 100 := wrap_id (by omega) (by omega)
  simp -dsimp [Tryz.f93, E93]
  repeat' (first | omega | (simp -dsimp [E93, ri, cellp, ints, w1, w2, w3]) | (refine Also.intro ?_ fun _ => ?_) | (refine Hold.intro fun _ => ?_) | (refine And.intro ?_ ?_))
theorem ok93 : FnOK Tryz.prog 93 (.pure upwS) := pure_fn (E := E93) rfl LOK.nil (ok := []) (fn := Tryz.f93) (by kernel_rfl) (by kernel_rfl) (by kernel_rfl) (by kernel_rfl) rfl (fun _ _ => by simp) b93
theorem sm_bnd {d : BdD} {L H : Int} (hL : -1000000 ≤ L) (hH : H ≤ 1000000) (hv : Vin d.t L H) : Sm (bndF d) := by
  by_cases h : bdErr d = 0
  · have := bnd_of h hv
    exact ⟨by omega, by omega, by omega, by omega⟩
  · rw [bndF, if_neg h]; exact ⟨by decide, by decide, by decide, by decide⟩
theorem ne_of_rot {m : Ma} (s : Sp) (hP : RoP m.r) (h : rotB m.r = true) : NeP (m, s) := by
  simp only [rotB, Bool.and_eq_true, List.all_eq_true] at h
  have c0 := limB_vin (h.1 ⟨m.r.h, 0, 100000⟩ (by simp [limL]))
  have c1 := limB_vin (h.1 ⟨m.r.g, 0, 100⟩ (by simp [limL]))
  have c3 := limB_vin (h.1 ⟨m.r.p, 0, 100000⟩ (by simp [limL]))
  exact ⟨hP.l ⟨m.r.h, 0, 100000⟩ (by simp [limL]), hP.l ⟨m.r.g, 0, 100⟩ (by simp [limL]), hP.l ⟨m.r.p, 0, 100000⟩ (by simp [limL]),
    sm_bnd (by simp) (by simp) c0, sm_bnd (by simp) (by simp) c1, sm_bnd (by simp) (by simp) c3⟩
@[simp] theorem ai_06 (a : Ai) : (a.row.drop 6).take 2 = [.int .i64 a.v.lo, .int .i64 a.v.hi] := rfl
noncomputable abbrev rneS : PSpec := mkP mrE NeP fun d => .agg (needF d.1 d.2).row
noncomputable abbrev E65 : Env := { P := Tryz.prog, fn := tbl [(66, .pure rb2S), (93, .pure upwS)], own := [], key := 6500, nt := 35, frz := [(1, [3, 4, 5, 50003, 50004, 50005])] }
theorem b65 : PureBody E65 [(1, ([1, 3, 5, 6, 8, 9, 11, 12], [[0, 1, 2, 3, 4, 5, 6, 7, 8, 9, 10, 11, 12, 13, 14, 15, 16]]))] Tryz.f65 rneS := by
  refine pb ?_
  rintro ⟨m, s⟩ ⟨h1, h2, _, b1, b2, _⟩
  simp only at h1 h2 b1 b2
  have d3 : decC bdE [.agg [.sl 1 (m.r.h.xs.map ri), .sl 1 (m.r.h.ys.map ri), .sl 1 (m.r.h.vs.map rwI)], .agg [.int .i64 m.a.w.lo, .int .i64 m.a.w.hi], .agg [.int .i64 m.a.t.lo, .int .i64 m.a.t.hi]] = hovD m := bdE_dec _ _ _
  have d4 : decC bdE [.agg [.sl 1 (m.r.g.xs.map ri), .sl 1 (m.r.g.ys.map ri), .sl 1 (m.r.g.vs.map rwI)], .agg [.int .i64 s.lo, .int .i64 s.hi], .agg [.int .i64 m.a.v.lo, .int .i64 m.a.v.hi]] = groD m s := bdE_dec _ _ _
  have g1 : (hovD m).t = m.r.h ∧ (hovD m).a = m.a.w ∧ (hovD m).b = m.a.t := ⟨rfl, rfl, rfl⟩
  have g2 : (groD m s).t = m.r.g ∧ (groD m s).a = s ∧ (groD m s).b = m.a.v := ⟨rfl, rfl, rfl⟩
  have hN : needF m s = ⟨((bndF (hovD m)).lo * (bndF (groD m s)).lo).tdiv 100, ((bndF (hovD m)).hi * (bndF (groD m s)).hi + 99).tdiv 100⟩ := rfl
  have p1 := mulB b1.a b1.b b2.a b2.b
  have p2 := mulB b1.c b1.d b2.c b2.d
  rcases hp : bndF (hovD m) with ⟨pl, ph⟩
  rcases hq : bndF (groD m s) with ⟨ql, qh⟩
  rw [hp, hq] at p1 p2 hN
  simp only at p1 p2 hN
  have t1 := tdB (n := pl * ql) (by omega) (by omega)
  have w1 : IntKind.wrap .i64 (pl * ql) = pl * ql := wrap_id (by omega) (by omega)
  have w2 : IntKind.wrap .i64 (ph * qh) = ph * qh := wrap_id (by omega) (by omega)
  have w4 : IntKind.wrap .i64 ((pl * ql).tdiv 100) = (pl * ql).tdiv 100 := wrap_id (by omega) (by omega)
  have q1 : -1000000000000 ≤ ph * qh := p2.1
  have q2 : ph * qh ≤ 1000000000000 := p2.2
  simp -dsimp [Tryz.f65, E65, Sp.row]
  repeat' (first | omega | (simp -dsimp [E65, ri, cellp, ints, Sp.row, h1, h2, d3, d4, g1, g2, hp, hq, w1, w2, w4, q1, q2, i2E_dec, hN, FreeAt, FoOk]) | (refine Also.intro ?_ fun _ => ?_) | (refine Hold.intro fun _ => ?_) | (refine And.intro ?_ ?_))
theorem ok65 : FnOK Tryz.prog 65 (.pure rneS) := pure_fn (E := E65) rfl (.cons ok66 (.cons ok93 .nil)) (ok := [(1, ([1, 3, 5, 6, 8, 9, 11, 12], [[0, 1, 2, 3, 4, 5, 6, 7, 8, 9, 10, 11, 12, 13, 14, 15, 16]]))]) (fn := Tryz.f65) (by kernel_rfl) (by kernel_rfl) (by kernel_rfl) (by kernel_rfl) rfl (fun _ _ => by simp) b65
end Go.Sx.Rot
end
