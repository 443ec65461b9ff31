/- Engine: a craft in an air. No conditions. -/
import Derived.Test.YtomgmojjdgiieaaGreatP36
set_option linter.unusedSimpArgs false
set_option linter.unusedVariables false
set_option linter.unusedSectionVars false
set_option linter.unusedSimpArgs false
set_option linter.unusedSectionVars false
set_option maxRecDepth 100000
set_option maxHeartbeats 32000000
namespace Go.Sx.Rot
open Go.Proofs Go.Sx Go.Sx.Tab
attribute [local irreducible] HLe
attribute [local simp] hps_app
structure Cnt (N : Nat) where
  n : Nat
  h : n ≤ N
def bI (b : Bool) : List V := [.bool b]
def bwI (l : List Bool) : List V := [.sl 1 (l.map bI)]
structure CX where
  c : Cr
  r0 : List Int
  r1 : List Int
  wk : List (List Bool)
  deriving Inhabited
def CX.row (x : CX) : List V := x.c.row ++ [.sl 1 (x.r0.map ri), .sl 1 (x.r1.map ri), .sl 1 (x.wk.map bwI)]
def rtL (c : Cr) (a : Ai) (e n : Nat) : List Int := (List.range n).map (rt c a e)
def wkL (c : Cr) (a : Ai) (v n : Nat) : List Bool := (List.range n).map (wkv c a v)
def wksL (c : Cr) (a : Ai) (n : Nat) : List (List Bool) := (List.range n).map fun v => wkL c a v (c.drop.toNat + 1)
def ncF (c : Cr) (a : Ai) : CX := ⟨c, rtL c a 0 (c.top.toNat + 1), rtL c a 1 (c.top.toNat + 1), wksL c a (c.top.toNat + 1)⟩
theorem rtL_succ (c : Cr) (a : Ai) (e n : Nat) : (rtL c a e (n + 1)).map ri = (rtL c a e n).map ri ++ [[.int .i64 (rt c a e n)]] := by simp [rtL, List.range_succ, ri]
theorem wkL_succ (c : Cr) (a : Ai) (v n : Nat) : (wkL c a v (n + 1)).map bI = (wkL c a v n).map bI ++ [[.bool (wkv c a v n)]] := by simp [wkL, List.range_succ, bI]
theorem wksL_succ (c : Cr) (a : Ai) (n : Nat) : (wksL c a (n + 1)).map bwI = (wksL c a n).map bwI ++ [[.sl 1 ((wkL c a n (c.drop.toNat + 1)).map bI)]] := by simp [wksL, List.range_succ, bwI]
theorem rtL_len (c : Cr) (a : Ai) (e n : Nat) : (rtL c a e n).length = n := by simp [rtL]
theorem wkL_len (c : Cr) (a : Ai) (v n : Nat) : (wkL c a v n).length = n := by simp [wkL]
theorem wksL_len (c : Cr) (a : Ai) (n : Nat) : (wksL c a n).length = n := by simp [wksL]
theorem rtL_0 (c : Cr) (a : Ai) (e : Nat) : (rtL c a e 0).map ri = [] := rfl
theorem wkL_0 (c : Cr) (a : Ai) (v : Nat) : (wkL c a v 0).map bI = [] := rfl
theorem wksL_0 (c : Cr) (a : Ai) : (wksL c a 0).map bwI = [] := rfl
noncomputable abbrev ncS : PSpec := mkP caA (fun d => RoP d.1.r) fun d => .tup [if caE d.1 d.2 = 0 then .ip 36 [(ncF d.1 d.2).row] 0 0 else .nilp, .int .i64 (caE d.1 d.2)]
theorem cx_t33 (c : Cr) (z : List V) : List.take 33 (c.row ++ z) = c.row := List.take_left' rfl
theorem cx_t34 (c : Cr) (z : List V) : List.take 34 (c.row ++ z) = c.row ++ z.take 1 := rfl
theorem cx_t35 (c : Cr) (z : List V) : List.take 35 (c.row ++ z) = c.row ++ z.take 2 := rfl
theorem cx_d33 (c : Cr) (z : List V) : List.drop 33 (c.row ++ z) = z := rfl
theorem cx_d34 (c : Cr) (z : List V) : List.drop 34 (c.row ++ z) = z.drop 1 := rfl
theorem cx_d35 (c : Cr) (z : List V) : List.drop 35 (c.row ++ z) = z.drop 2 := rfl
theorem cx_d36 (c : Cr) (z : List V) : List.drop 36 (c.row ++ z) = z.drop 3 := rfl
theorem cx_g33 (c : Cr) (x y w : V) (h : 33 < (c.row ++ [x, y, w]).length) : (c.row ++ [x, y, w])[33]'h = x := rfl
theorem cx_g34 (c : Cr) (x y w : V) (h : 34 < (c.row ++ [x, y, w]).length) : (c.row ++ [x, y, w])[34]'h = y := rfl
theorem cx_g35 (c : Cr) (x y w : V) (h : 35 < (c.row ++ [x, y, w]).length) : (c.row ++ [x, y, w])[35]'h = w := rfl
theorem lendCs_app (g : V → Prop × V) : ∀ (l z : List V), (lendCs g l) = (True, l) → lendCs g (l ++ z) = ((lendCs g z).1, l ++ (lendCs g z).2)
  | [], z, _ => rfl
  | x :: l, z, h => by
    simp only [lendCs, Prod.mk.injEq, eq_iff_iff, iff_true, List.cons.injEq] at h
    obtain ⟨⟨h1, h2⟩, h3, h4⟩ := h
    have ih := lendCs_app g l z (by rw [← Prod.eta (lendCs g l)]; exact Prod.ext (eq_true h2) h4)
    simp only [List.cons_append, lendCs, ih, h1, h3, true_and]
theorem cr_lendCs (f : Nat) (h : Hp) (c : Cr) (z : List V) : lendCs (lendN f h) (c.row ++ z) = ((lendCs (lendN f h) z).1, c.row ++ (lendCs (lendN f h) z).2) := by
  refine lendCs_app _ _ _ ?_
  cases f <;> simp [Cr.row, Ro.row, tabR, ints, lendCs, lendN, V.leaf]
def x0 (v e : Nat) : V := if v = 0 then (if e = 0 then .nil else .bsl 2951 0 1) else .bsl 2951 0 (if e = 0 then v else v + 1)
def x1 (v e : Nat) : V := if v = 0 then (if e ≤ 1 then .nil else .bsl 2951 1 1) else .bsl 2951 1 (if e ≤ 1 then v else v + 1)
def xw (v : Nat) : V := if v = 0 then .nil else .bsl 3008 0 v
def rB (c : Cr) (a : Ai) (e n : Nat) : Blk := { z := 1, els := (rtL c a e n).map ri, ty := 3 }
def rBs (c : Cr) (a : Ai) (v e : Nat) : List Blk := if v = 0 then (if e = 0 then [] else if e = 1 then [rB c a 0 1] else [rB c a 0 1, rB c a 1 1]) else [rB c a 0 (if e = 0 then v else v + 1), rB c a 1 (if e ≤ 1 then v else v + 1)]
def wBs (c : Cr) (a : Ai) (v : Nat) : List Blk := if v = 0 then [] else [{ z := 1, els := (wksL c a v).map bwI, ty := 127 }]
def xS (c : Cr) (v e : Nat) : Site := { base := 0, blks := [{ z := 36, els := [c.row ++ [x0 v e, x1 v e, xw v]], ty := 90, cl := if v = 0 then (if e = 0 then true else false) else false }] }
def crS1 (c : Cr) : Site := { base := 0, blks := [{ z := 33, els := [c.row], ty := 29 }] }
def spS1 (s : Sp) (b : Nat) : Site := { base := b, blks := [{ z := 2, els := [[.int .i64 s.lo, .int .i64 s.hi]], ty := 31 }] }
def gone (b : Nat) : Site := { base := b, blks := [] }
def ncT (c : Cr) (a : Ai) : List (Nat × Site) := [(2813, spS1 (hfS c a) 0), (2811, spS1 (bndF (powD (caM c a))) 0), (2809, roS0 c.r), (2808, gone 4), (2803, aiS0 a), (2802, crS1 c)]
def ncH (c : Cr) (a : Ai) (v : Nat) : Hp := hps ([(3008, { base := 0, blks := wBs c a v }), (2999, gone v), (2823, gone (v * (c.drop.toNat + 1))), (2951, { base := 0, blks := rBs c a v 0 }), (2817, gone v), (2816, gone v), (2887, xS c v 0)] ++ ncT c a) noH
def ncHe (c : Cr) (a : Ai) (v e : Nat) : Hp := hps ([(3008, { base := 0, blks := wBs c a v }), (2999, gone v), (2823, gone (v * (c.drop.toNat + 1))), (2951, { base := 0, blks := rBs c a v e }), (2817, spS1 (bndF (levD (caM c a) (vS c v))) v), (2816, spS1 (vS c v) v), (2887, xS c v e)] ++ ncT c a) noH
def ncHd (c : Cr) (a : Ai) (v d : Nat) : Hp := hps ([(3008, { base := 0, blks := wBs c a v }), (2999, { base := v, blks := [{ z := 1, els := (wkL c a v d).map bI, ty := 4 }] }), (2823, gone (v * (c.drop.toNat + 1) + d)), (2951, { base := 0, blks := rBs c a v 2 }), (2817, spS1 (bndF (levD (caM c a) (vS c v))) v), (2816, spS1 (vS c v) v), (2887, xS c v 2)] ++ ncT c a) noH
noncomputable abbrev E28 : Env := { P := Tryz.prog, fn := tbl [(56, .pure ccS), (39, .pure bxkS), (57, .pure liS), (11, .pure HasS), (58, .pure parS), (59, .pure LevS), (60, .pure efS), (61, .pure WakS)], own := [], key := 2800, nt := 213, frz := [(36, [21, 50021])] }
theorem b28 : PureBody E28 [(24, ([], [[0, 1, 2, 3, 4, 5, 6, 7, 8, 9, 10, 11, 12, 13, 14, 15, 16, 17, 18, 19, 20, 21, 22, 23]])), (32, ([], [[0, 1, 2, 3, 4, 5, 6, 7, 8, 9, 10, 11, 12, 13, 14, 15, 16]]))] Tryz.f28 ncS := by
  refine pb ?_
  rintro ⟨c, a⟩ hP
  have hP : RoP c.r := hP
  have hPm : RoP (caM c a).r := hP
  have m1 : (caM c a).r = c.r := rfl
  have m2 : (caM c a).a = a := rfl
  have dc := crE_dec c
  have hE : caE c a = if ccE c = 0 then (if airE (caM c a) = 0 then (if liB4 c a = true then 0 else 1) else airE (caM c a)) else ccE c := rfl
  by_cases h1 : ccE c = 0
  case neg =>
    rw [if_neg h1] at hE
    have h1' : caE c a ≠ 0 := by rw [hE]; exact h1
    simp -dsimp [Tryz.f28, E28]
    repeat' (first | omega | (simp -dsimp [E28, ri, cellp, ints, dc, hP, h1, hE]) | (refine Also.intro ?_ fun _ => ?_) | (refine Hold.intro fun _ => ?_) | (refine And.intro ?_ ?_))
  rw [if_pos h1] at hE
  have hL := aiL_rows a
  have hlen : (aiL a).length = 4 := rfl
  have hrot := (ccE_ok h1).1
  simp -dsimp [Tryz.f28, E28]
  repeat' (first | omega | (simp -dsimp [E28, ri, cellp, ints, dc, hP, h1, hlen]) | (refine Also.intro ?_ fun _ => ?_) | (refine Hold.intro fun _ => ?_) | (refine And.intro ?_ ?_))
  rw [hL]
  refine awp_loop [41, 42, 43, 8, 44, 45, 46, 47, 4, 5, 48, 40] (fun k : { k : Nat // k ≤ 4 ∧ ∀ j x, j < k → (aiL a)[j]? = some x → spN x = false } => [(40, (true, .int .i64 k.1))]) (fun k => hps [(2808, gone k.1), (2803, aiS0 a), (2802, crS1 c)] noH) (fun k => 4 - k.1) ⟨0, by omega, fun _ _ h => by omega⟩ ?_ ?_ ?_
  · simp [okAll, okv]
  · exact (by (try simp -dsimp only [hpush_noH, hpush_hps, hps_over]); refine hle_hps ?_; simp -dsimp [allK, crS1, aiS0, gone]; repeat' (first | (refine And.intro ?_ ?_) | (refine sLe.same ?_ ?_ <;> (simp; done)) | (refine sLe.clear ?_ ?_ <;> (first | (simp; done) | (simp; omega))) | (refine sLe.drop 1 ?_ ?_ ?_ <;> (simp; done))))
  rintro ⟨k, hk, hall⟩
  dsimp only
  by_cases hk1 : k < 4
  · have hki : (k : Int) < 4 := by omega
    have hkl : k < (aiL a).length := by omega
    have wk : IntKind.wrap .i64 ((k : Int) + 1) = (k + 1 : Nat) := wrap_id (by omega) (by omega)
    obtain ⟨x, hx, hx'⟩ := get_ex hkl
    have hd : decC slE [.sl 2 [[.int .i64 x.lo, .int .i64 x.hi]]] = [x] := decC_eq slE_inj [x]
    have hw3 : withinB 1 1 3 = true := by decide
    cases hw : spN x
    · simp -dsimp [hki]
      repeat' (first | omega | (simp -dsimp [E28, ri, cellp, ints, hki, hk1, hkl, hlen, hx, hx', hw, hw3, wk, hd, Sp.row, crS1, aiS0, gone]) | (refine Also.intro ?_ fun _ => ?_) | (refine Hold.intro fun _ => ?_) | (refine And.intro ?_ ?_))
      refine ⟨k + 1, tle_chain rfl ?_, ?_, ⟨by omega, fun j y hj hy => ?_⟩, by omega⟩
      · simp [okAll, okv]
      · exact (by (try simp -dsimp only [hpush_noH, hpush_hps, hps_over]); refine hle_hps ?_; simp -dsimp [allK, crS1, aiS0, gone]; repeat' (first | (refine And.intro ?_ ?_) | (refine sLe.same ?_ ?_ <;> (simp; done)) | (refine sLe.clear ?_ ?_ <;> (first | (simp; done) | (simp; omega))) | (refine sLe.drop 1 ?_ ?_ ?_ <;> (simp; done))))
      · by_cases hjk : j = k
        · subst hjk; rw [hx] at hy; cases hy; exact hw
        · exact hall j y (by omega) hy
    · have hz : caE c a = 21 := by
        have h2 : airE (caM c a) = 21 := by
          have : (aiL (caM c a).a).any spN = true := List.any_eq_true.2 ⟨x, List.mem_of_getElem? hx, hw⟩
          unfold airE
          rw [if_pos (show rotB (caM c a).r = true from hrot), if_pos this]
        rw [hE, h2]; rfl
      simp -dsimp [hki]
      repeat' (first | omega | (simp -dsimp [E28, ri, cellp, ints, hki, hk1, hkl, hlen, hx, hx', hw, hw3, hz, wk, hd, Sp.row, crS1, aiS0, gone]) | (refine Also.intro ?_ fun _ => ?_) | (refine Hold.intro fun _ => ?_) | (refine And.intro ?_ ?_))
  have hkn : ((k : Int) < 4) = False := eq_false (by omega)
  have : k = 4 := by omega
  subst this
  have hany : (aiL a).any spN = false := List.any_eq_false.2 fun x hx => by
    obtain ⟨j, hj, e⟩ := List.getElem_of_mem hx
    rw [hall j x (by omega) (by rw [List.getElem?_eq_getElem hj, e])]; simp
  have h2 : airE (caM c a) = 0 := by
    unfold airE
    rw [if_pos (show rotB (caM c a).r = true from hrot), if_neg (by rw [show (caM c a).a = a from rfl, hany]; simp)]
  rw [if_pos h2] at hE
  clear hall hL
  have hSp : spN a.w = false ∧ spN a.t = false ∧ spN a.h = false ∧ spN a.v = false := by simpa [aiL] using hany
  have hLn := lens_of hrot
  have hle : ∀ {s : Sp}, spN s = false → s.lo ≤ s.hi := fun h => by rw [spN_eq] at h; simp only [Bool.not_eq_false', decide_eq_true_eq] at h; exact h.2.1
  have p1 : LiP (c.r.p.xs, a.t) := ⟨hLn.px.1, hLn.px.2, hle hSp.2.1⟩
  have p2 : LiP (c.r.p.ys, a.h) := ⟨hLn.py.1, hLn.py.2, hle hSp.2.2.1⟩
  have p3 : LiP (c.r.l.ys, a.w) := ⟨hLn.ly.1, hLn.ly.2, hle hSp.1⟩
  have p4 : LiP (c.r.rl.ys, a.w) := ⟨hLn.ry.1, hLn.ry.2, hle hSp.1⟩
  have e1 := lsE_dec c.r.p.xs a.t
  have e2 := lsE_dec c.r.p.ys a.h
  have e3 := lsE_dec c.r.l.ys a.w
  have e4 := lsE_dec c.r.rl.ys a.w
  have hB : liB4 c a = (lieB c.r.p.xs a.t && (lieB c.r.p.ys a.h && (lieB c.r.l.ys a.w && lieB c.r.rl.ys a.w))) := rfl
  rw [hB] at hE
  cases g1 : lieB c.r.p.xs a.t
  case false =>
    rw [g1] at hE
    simp -dsimp at hE
    simp -dsimp [hkn]
    repeat' (first | omega | (simp -dsimp [E28, ri, cellp, ints, hkn, crS1, aiS0, gone, hE, p1, p2, p3, p4, e1, e2, e3, e4, g1]) | (refine Also.intro ?_ fun _ => ?_) | (refine Hold.intro fun _ => ?_) | (refine And.intro ?_ ?_))
  cases g2 : lieB c.r.p.ys a.h
  case false =>
    rw [g1, g2] at hE
    simp -dsimp at hE
    simp -dsimp [hkn]
    repeat' (first | omega | (simp -dsimp [E28, ri, cellp, ints, hkn, crS1, aiS0, gone, hE, p1, p2, p3, p4, e1, e2, e3, e4, g1, g2]) | (refine Also.intro ?_ fun _ => ?_) | (refine Hold.intro fun _ => ?_) | (refine And.intro ?_ ?_))
  cases g3 : lieB c.r.l.ys a.w
  case false =>
    rw [g1, g2, g3] at hE
    simp -dsimp at hE
    simp -dsimp [hkn]
    repeat' (first | omega | (simp -dsimp [E28, ri, cellp, ints, hkn, crS1, aiS0, gone, hE, p1, p2, p3, p4, e1, e2, e3, e4, g1, g2, g3]) | (refine Also.intro ?_ fun _ => ?_) | (refine Hold.intro fun _ => ?_) | (refine And.intro ?_ ?_))
  cases g4 : lieB c.r.rl.ys a.w
  case false =>
    rw [g1, g2, g3, g4] at hE
    simp -dsimp at hE
    simp -dsimp [hkn]
    repeat' (first | omega | (simp -dsimp [E28, ri, cellp, ints, hkn, crS1, aiS0, gone, hE, p1, p2, p3, p4, e1, e2, e3, e4, g1, g2, g3, g4]) | (refine Also.intro ?_ fun _ => ?_) | (refine Hold.intro fun _ => ?_) | (refine And.intro ?_ ?_))
  rw [g1, g2, g3, g4] at hE
  simp -dsimp at hE
  have F := ca_facts hE
  have bI := crI_b F.int
  have k0 := ck_has0 F
  have d0 : decC raE [.agg c.r.row, .agg a.row] = caM c a := raE_dec (caM c a)
  have d1 := paE_dec (bndF (powD (caM c a))) c.one 100
  have bP := pow_b F
  have pP : PaP (bndF (powD (caM c a)), c.one, 100) := ⟨(spN_eq _).trans (by rw [decide_eq_true (by simp only; omega)]; rfl), (decide_eq_true (by omega) : decide (0 ≤ c.one ∧ c.one ≤ 1000) = true), (rfl : withinB 100 1 1000 = true)⟩
  have hH : maF (paF (bndF (powD (caM c a))) c.one 100) = hfS c a := rfl
  have wT : IntKind.wrap .i64 (c.top + 1) = c.top + 1 := wrap_id (by omega) (by omega)
  have wD : IntKind.wrap .i64 (c.drop + 1) = c.drop + 1 := wrap_id (by omega) (by omega)
  obtain ⟨N, hN⟩ : ∃ N : Nat, c.top = (N : Int) := ⟨c.top.toNat, by omega⟩
  have hN1 : c.top.toNat = N := by omega
  simp -dsimp [hkn]
  repeat' (first | omega | (simp -dsimp [E28, ri, cellp, ints, hkn, crS1, aiS0, gone, p1, p2, p3, p4, e1, e2, e3, e4, g1, g2, g3, g4, k0, d0, d1, pP, hP, m1, m2, hH, wT, cx_t33, cx_d33, Sp.row]) | (refine Also.intro ?_ fun _ => ?_) | (refine Hold.intro fun _ => ?_) | (refine And.intro ?_ ?_))
  refine awp_loop [105, 106, 15, 107, 108, 109, 110, 111, 112, 113, 114, 115, 16, 117, 118, 119, 120, 116, 121, 122, 17, 18, 123, 124, 125, 126, 127, 128, 129, 130, 131, 19, 20, 132, 133, 134, 135, 136, 137, 138, 139, 140, 141, 142, 143, 144, 145, 146, 147, 148, 149, 150, 151, 152, 153, 154, 155, 21, 156, 157, 158, 159, 160, 161, 22, 162, 163, 164, 165, 166, 167, 168, 169, 170, 23, 24, 171, 172, 173, 174, 175, 176, 177, 178, 179, 180, 181, 182, 183, 184, 185, 186, 187, 189, 190, 191, 192, 193, 188, 194, 195, 196, 197, 198, 199, 200, 201, 202, 203, 204, 205, 206, 207, 208, 209, 210, 211, 104] (fun v : Cnt (N + 1) => [(104, (true, .int .i64 v.n))]) (fun v => ncH c a v.n) (fun v => N + 1 - v.n) ⟨0, by omega⟩ ?_ ?_ ?_
  · simp [okAll, okv]
  · exact (by (try simp -dsimp only [hpush_noH, hpush_hps, hps_over]); refine hle_hps ?_; simp -dsimp [allK, ncH, ncT, crS1, aiS0, gone, roS0, spS1, wBs, rBs, xS, x0, x1, xw]; repeat' (first | (refine And.intro ?_ ?_) | (refine sLe.same ?_ ?_ <;> (simp; done)) | (refine sLe.clear ?_ ?_ <;> (first | (simp; done) | (simp; omega))) | (refine sLe.drop 1 ?_ ?_ ?_ <;> (simp; done))))
  rintro ⟨v, hv⟩
  dsimp only
  have dn := den_b F
  have wm : IntKind.wrap .i64 (c.r.climb * c.step) = c.r.climb * c.step := wrap_id (by omega) (by omega)
  have hh := half_lo F
  by_cases hv1 : v < N + 1
  · have hvi : (v : Int) < c.top + 1 := by omega
    have hvt : (v : Int) ≤ c.top := by omega
    have hv6 : v ≤ 6 := by omega
    have wv : IntKind.wrap .i64 ((v : Int) + 1) = (v + 1 : Nat) := wrap_id (by omega) (by omega)
    have vb := vS_b F.int hvt
    have wvu : IntKind.wrap .i64 ((v : Int) * c.unit) = (v : Int) * c.unit := wrap_id (by omega) (by omega)
    have kl := ck_lvl0 F hvt
    have d2 : decC rasE [.agg c.r.row, .agg a.row, .agg [.int .i64 ((v : Int) * c.unit), .int .i64 ((v : Int) * c.unit)]] = (caM c a, vS c v) := rasE_dec (caM c a) (vS c v)
    have vlo : (vS c v).lo = (v : Int) * c.unit := rfl
    have vhi : (vS c v).hi = (v : Int) * c.unit := rfl
    have lvB := lev_b F hvt
    simp -dsimp [hvi]
    repeat' (first | omega | (simp -dsimp [E28, ri, cellp, ints, hvi, ncH, ncT, crS1, aiS0, gone, roS0, spS1, wvu, vlo, vhi, kl, d2, hP, m1, m2, Sp.row]) | (refine Also.intro ?_ fun _ => ?_) | (refine Hold.intro fun _ => ?_) | (refine And.intro ?_ ?_))
    refine awp_loop [129, 130, 131, 19, 20, 132, 133, 134, 135, 136, 137, 138, 139, 140, 141, 142, 143, 144, 145, 146, 147, 148, 149, 150, 151, 152, 153, 154, 155, 128] (fun e : Cnt 2 => [(128, (true, .int .i64 e.n))]) (fun e => ncHe c a v e.n) (fun e => 2 - e.n) ⟨0, by omega⟩ ?_ ?_ ?_
    · simp [okAll, okv]
    · exact (by (try simp -dsimp only [hpush_noH, hpush_hps, hps_over]); refine hle_hps ?_; simp -dsimp [allK, ncHe, ncT, crS1, aiS0, gone, roS0, spS1, vlo, vhi, xS, rBs, rB, wBs]; repeat' (first | (refine And.intro ?_ ?_) | (refine sLe.same ?_ ?_ <;> (simp; done)) | (refine sLe.clear ?_ ?_ <;> (first | (simp; done) | (simp; omega))) | (refine sLe.drop 1 ?_ ?_ ?_ <;> (simp; done))))
    rintro ⟨e, he⟩
    dsimp only
    rcases (by omega : e = 0 ∨ e = 1 ∨ e = 2) with rfl | rfl | rfl
    · have we : IntKind.wrap .i64 1 = 1 := by decide
      have wa : IntKind.wrap .i64 ((bndF (powD (caM c a))).lo - (bndF (levD (caM c a) (vS c v))).hi) = (bndF (powD (caM c a))).lo - (bndF (levD (caM c a) (vS c v))).hi := wrap_id (by omega) (by omega)
      have fd := i2E_dec ((bndF (powD (caM c a))).lo - (bndF (levD (caM c a) (vS c v))).hi) (c.r.climb * c.step)
      have fr : ((bndF (powD (caM c a))).lo - (bndF (levD (caM c a) (vS c v))).hi) / (c.r.climb * c.step) = rt c a 0 v := rfl
      have fp : (-1000000000 ≤ (bndF (powD (caM c a))).lo - (bndF (levD (caM c a) (vS c v))).hi ∧ (bndF (powD (caM c a))).lo - (bndF (levD (caM c a) (vS c v))).hi ≤ 1000000000) ∧ 0 < c.r.climb * c.step ∧ c.r.climb * c.step ≤ 1000000 := by omega
      obtain ⟨fp1, fp2, fp3⟩ := fp
      by_cases v0 : v = 0
      · subst v0
        simp -dsimp [ncHe, xS, x0, x1, xw, rBs, rB, wBs, rtL_0]
        repeat' (first | omega | (simp -dsimp [E28, ri, cellp, ints, FreeAt, ncHe, ncT, crS1, aiS0, gone, roS0, spS1, xS, x0, x1, xw, rBs, rB, wBs, rtL_0, rtL_len, wa, wm, fd, fr, fp1, fp2, fp3, we, cx_g33, cx_g34, cx_g35, cx_t33, cx_t34, cx_t35, cx_d34, cx_d35, cx_d36]) | (refine Also.intro ?_ fun _ => ?_) | (refine Hold.intro fun _ => ?_) | (refine And.intro ?_ ?_))
        refine ⟨⟨1, by omega⟩, tle_chain rfl ?_, ?_, by first | omega | (simp only; done) | (simp only; omega)⟩
        · simp [okAll, okv]
        · exact (by (try simp -dsimp only [hpush_noH, hpush_hps, hps_over]); refine hle_hps ?_; simp -dsimp [allK, ncHe, ncT, crS1, aiS0, gone, roS0, spS1, xS, x0, x1, xw, rBs, rB, wBs, rtL_0, rtL_succ]; repeat' (first | (refine And.intro ?_ ?_) | (refine sLe.same ?_ ?_ <;> (simp; done)) | (refine sLe.clear ?_ ?_ <;> (first | (simp; done) | (simp; omega))) | (refine sLe.drop 1 ?_ ?_ ?_ <;> (simp; done))))
      · simp -dsimp [ncHe, xS, x0, x1, xw, rBs, rB, wBs, v0]
        repeat' (first | omega | (simp -dsimp [E28, ri, cellp, ints, FreeAt, ncHe, ncT, crS1, aiS0, gone, roS0, spS1, xS, x0, x1, xw, rBs, rB, wBs, v0, rtL_len, hv6, wa, wm, fd, fr, fp1, fp2, fp3, we, cx_g33, cx_g34, cx_g35, cx_t33, cx_t34, cx_t35, cx_d34, cx_d35, cx_d36]) | (refine Also.intro ?_ fun _ => ?_) | (refine Hold.intro fun _ => ?_) | (refine And.intro ?_ ?_))
        refine ⟨⟨1, by omega⟩, tle_chain rfl ?_, ?_, by first | omega | (simp only; done) | (simp only; omega)⟩
        · simp [okAll, okv]
        · exact (by (try simp -dsimp only [hpush_noH, hpush_hps, hps_over]); refine hle_hps ?_; simp -dsimp [allK, ncHe, ncT, crS1, aiS0, gone, roS0, spS1, xS, x0, x1, xw, rBs, rB, wBs, v0, rtL_succ]; repeat' (first | (refine And.intro ?_ ?_) | (refine sLe.same ?_ ?_ <;> (simp; done)) | (refine sLe.clear ?_ ?_ <;> (first | (simp; done) | (simp; omega))) | (refine sLe.drop 1 ?_ ?_ ?_ <;> (simp; done))))
    · have we : IntKind.wrap .i64 2 = 2 := by decide
      have wa : IntKind.wrap .i64 ((hfS c a).lo - (bndF (levD (caM c a) (vS c v))).hi) = (hfS c a).lo - (bndF (levD (caM c a) (vS c v))).hi := wrap_id (by omega) (by omega)
      have fd := i2E_dec ((hfS c a).lo - (bndF (levD (caM c a) (vS c v))).hi) (c.r.climb * c.step)
      have fr : ((hfS c a).lo - (bndF (levD (caM c a) (vS c v))).hi) / (c.r.climb * c.step) = rt c a 1 v := rfl
      have fp : (-1000000000 ≤ (hfS c a).lo - (bndF (levD (caM c a) (vS c v))).hi ∧ (hfS c a).lo - (bndF (levD (caM c a) (vS c v))).hi ≤ 1000000000) ∧ 0 < c.r.climb * c.step ∧ c.r.climb * c.step ≤ 1000000 := by omega
      obtain ⟨fp1, fp2, fp3⟩ := fp
      by_cases v0 : v = 0
      · subst v0
        simp -dsimp [ncHe, xS, x0, x1, xw, rBs, rB, wBs, rtL_0]
        repeat' (first | omega | (simp -dsimp [E28, ri, cellp, ints, FreeAt, ncHe, ncT, crS1, aiS0, gone, roS0, spS1, xS, x0, x1, xw, rBs, rB, wBs, rtL_0, rtL_len, wa, wm, fd, fr, fp1, fp2, fp3, we, cx_g33, cx_g34, cx_g35, cx_t33, cx_t34, cx_t35, cx_d34, cx_d35, cx_d36]) | (refine Also.intro ?_ fun _ => ?_) | (refine Hold.intro fun _ => ?_) | (refine And.intro ?_ ?_))
        refine ⟨⟨2, by omega⟩, tle_chain rfl ?_, ?_, by first | omega | (simp only; done) | (simp only; omega)⟩
        · simp [okAll, okv]
        · exact (by (try simp -dsimp only [hpush_noH, hpush_hps, hps_over]); refine hle_hps ?_; simp -dsimp [allK, ncHe, ncT, crS1, aiS0, gone, roS0, spS1, xS, x0, x1, xw, rBs, rB, wBs, rtL_0, rtL_succ]; repeat' (first | (refine And.intro ?_ ?_) | (refine sLe.same ?_ ?_ <;> (simp; done)) | (refine sLe.clear ?_ ?_ <;> (first | (simp; done) | (simp; omega))) | (refine sLe.drop 1 ?_ ?_ ?_ <;> (simp; done))))
      · simp -dsimp [ncHe, xS, x0, x1, xw, rBs, rB, wBs, v0]
        repeat' (first | omega | (simp -dsimp [E28, ri, cellp, ints, FreeAt, ncHe, ncT, crS1, aiS0, gone, roS0, spS1, xS, x0, x1, xw, rBs, rB, wBs, v0, rtL_len, hv6, wa, wm, fd, fr, fp1, fp2, fp3, we, cx_g33, cx_g34, cx_g35, cx_t33, cx_t34, cx_t35, cx_d34, cx_d35, cx_d36]) | (refine Also.intro ?_ fun _ => ?_) | (refine Hold.intro fun _ => ?_) | (refine And.intro ?_ ?_))
        refine ⟨⟨2, by omega⟩, tle_chain rfl ?_, ?_, by first | omega | (simp only; done) | (simp only; omega)⟩
        · simp [okAll, okv]
        · exact (by (try simp -dsimp only [hpush_noH, hpush_hps, hps_over]); refine hle_hps ?_; simp -dsimp [allK, ncHe, ncT, crS1, aiS0, gone, roS0, spS1, xS, x0, x1, xw, rBs, rB, wBs, v0, rtL_succ]; repeat' (first | (refine And.intro ?_ ?_) | (refine sLe.same ?_ ?_ <;> (simp; done)) | (refine sLe.clear ?_ ?_ <;> (first | (simp; done) | (simp; omega))) | (refine sLe.drop 1 ?_ ?_ ?_ <;> (simp; done))))
    · obtain ⟨D, hD⟩ : ∃ D : Nat, c.drop = (D : Int) := ⟨c.drop.toNat, by omega⟩
      have hD1 : c.drop.toNat = D := by omega
      simp -dsimp
      repeat' (first | omega | (simp -dsimp [E28, ri, cellp, ints, ncHe, ncT, crS1, aiS0, gone, roS0, spS1, wD]) | (refine Also.intro ?_ fun _ => ?_) | (refine Hold.intro fun _ => ?_) | (refine And.intro ?_ ?_))
      refine awp_loop_g [(21, 2999, 1, 4)] rfl (by simp) [160, 161, 22, 162, 163, 164, 165, 166, 167, 168, 169, 170, 23, 24, 171, 172, 173, 174, 175, 176, 177, 178, 179, 180, 181, 182, 183, 184, 185, 186, 187, 189, 190, 191, 192, 193, 188, 194, 195, 196, 197, 198, 199, 21, 200, 159] (fun d : Cnt (D + 1) => [(159, (true, .int .i64 d.n)), (21, (true, .bsl 2999 v d.n))]) (fun d => ncHd c a v d.n) (fun d => D + 1 - d.n) ⟨0, by omega⟩ ?_ ?_ ?_
      · simp [okAll, okv]
      · exact (by (try simp -dsimp only [hpush_noH, hpush_hps, hps_over]); refine hle_hps ?_; simp -dsimp [allK, ncHe, ncHd, ncT, crS1, aiS0, gone, roS0, spS1, wkL_0]; repeat' (first | (refine And.intro ?_ ?_) | (refine sLe.same ?_ ?_ <;> (simp; done)) | (refine sLe.clear ?_ ?_ <;> (first | (simp; done) | (simp; omega))) | (refine sLe.drop 1 ?_ ?_ ?_ <;> (simp; done))))
      rintro ⟨d, hd⟩
      dsimp only
      by_cases hd1 : d < D + 1
      · have hdi : (d : Int) < c.drop + 1 := by omega
        have hdt : (d : Int) ≤ c.drop := by omega
        have hd3 : d ≤ 3 := by omega
        have wdd : IntKind.wrap .i64 ((d : Int) + 1) = (d + 1 : Nat) := wrap_id (by omega) (by omega)
        have db := dS_b F.int hdt
        have wds : IntKind.wrap .i64 ((d : Int) * c.step) = (d : Int) * c.step := wrap_id (by omega) (by omega)
        have hlr := hLn.rx.1
        have hlr2 := hLn.rx.2
        obtain ⟨y, hy, hy'⟩ := get_ex (l := c.r.rl.xs) (k := c.r.rl.xs.length - 1) (by omega)
        have hlt : c.r.rl.xs.length - 1 < c.r.rl.xs.length := by omega
        have gy : lastR c = y := by simp [lastR, List.getD, hy]
        have wl : IntKind.wrap .i64 ((c.r.rl.xs.length : Int) - 1) = (c.r.rl.xs.length - 1 : Nat) := by rw [wrap_id (by omega) (by omega)]; omega
        by_cases d0 : d = 0
        · subst d0
          have hw : wkv c a v 0 = false := by simp [wkv]
          have w1 : IntKind.wrap .i64 1 = 1 := by decide
          simp -dsimp [hdi]
          repeat' (first | omega | (simp -dsimp [E28, ri, cellp, ints, hdi, ncHd, ncT, crS1, aiS0, gone, roS0, spS1, wdd, w1, wds, wkL_0, hw, Sp.row]) | (refine Also.intro ?_ fun _ => ?_) | (refine Hold.intro fun _ => ?_) | (refine And.intro ?_ ?_))
          refine ⟨⟨1, by omega⟩, tle_chain rfl ?_, ?_, by simp only; omega⟩
          · simp [okAll, okv]
          · exact (by (try simp -dsimp only [hpush_noH, hpush_hps, hps_over]); refine hle_hps ?_; simp -dsimp [allK, ncHd, ncT, crS1, aiS0, gone, roS0, spS1, wkL_succ, wkL_0, hw]; repeat' (first | (refine And.intro ?_ ?_) | (refine sLe.same ?_ ?_ <;> (simp; done)) | (refine sLe.clear ?_ ?_ <;> (first | (simp; done) | (simp; omega))) | (refine sLe.drop 1 ?_ ?_ ?_ <;> (simp; done))))
        have d0' : ((0 : Int) < d) = True := eq_true (by omega)
        by_cases hq : (v : Int) * c.unit ≤ y
        · have hw : wkv c a v d = wkB (caM c a) (vS c v) (dS c d) := if_pos ⟨by omega, by rw [gy]; exact hq⟩
          have kw := ck_wk0 F hvt hdt (by rw [gy]; exact hq)
          have d3 : decC rassE [.agg c.r.row, .agg a.row, .agg [.int .i64 ((v : Int) * c.unit), .int .i64 ((v : Int) * c.unit)], .agg [.int .i64 ((d : Int) * c.step), .int .i64 ((d : Int) * c.step)]] = (caM c a, vS c v, dS c d) := rassE_dec (caM c a) (vS c v) (dS c d)
          have dlo : (dS c d).lo = (d : Int) * c.step := rfl
          have dhi : (dS c d).hi = (d : Int) * c.step := rfl
          simp -dsimp [hdi]
          repeat' (first | omega | (simp -dsimp [E28, ri, cellp, ints, hdi, ncHd, ncT, crS1, aiS0, gone, roS0, spS1, wdd, wds, wkL_len, hd3, d0', hq, hy, hy', hlt, wl, kw, d3, vlo, vhi, dlo, dhi, hP, m1, m2, Sp.row]) | (refine Also.intro ?_ fun _ => ?_) | (refine Hold.intro fun _ => ?_) | (refine And.intro ?_ ?_))
          refine ⟨⟨d + 1, by omega⟩, tle_chain rfl ?_, ?_, by simp only; omega⟩
          · simp [okAll, okv]
          · exact (by (try simp -dsimp only [hpush_noH, hpush_hps, hps_over]); refine hle_hps ?_; simp -dsimp [allK, ncHd, ncT, crS1, aiS0, gone, roS0, spS1, wkL_succ, hw]; repeat' (first | (refine And.intro ?_ ?_) | (refine sLe.same ?_ ?_ <;> (simp; done)) | (refine sLe.clear ?_ ?_ <;> (first | (simp; done) | (simp; omega))) | (refine sLe.drop 1 ?_ ?_ ?_ <;> (simp; done))))
        · have hw : wkv c a v d = false := if_neg (fun h => hq (by rw [← gy]; exact h.2))
          have hq' : ((v : Int) * c.unit ≤ y) = False := eq_false hq
          simp -dsimp [hdi]
          repeat' (first | omega | (simp -dsimp [E28, ri, cellp, ints, hdi, ncHd, ncT, crS1, aiS0, gone, roS0, spS1, wdd, wds, wkL_len, hd3, d0', hq', hy, hy', hlt, wl, vlo, vhi, Sp.row]) | (refine Also.intro ?_ fun _ => ?_) | (refine Hold.intro fun _ => ?_) | (refine And.intro ?_ ?_))
          refine ⟨⟨d + 1, by omega⟩, tle_chain rfl ?_, ?_, by simp only; omega⟩
          · simp [okAll, okv]
          · exact (by (try simp -dsimp only [hpush_noH, hpush_hps, hps_over]); refine hle_hps ?_; simp -dsimp [allK, ncHd, ncT, crS1, aiS0, gone, roS0, spS1, wkL_succ, hw]; repeat' (first | (refine And.intro ?_ ?_) | (refine sLe.same ?_ ?_ <;> (simp; done)) | (refine sLe.clear ?_ ?_ <;> (first | (simp; done) | (simp; omega))) | (refine sLe.drop 1 ?_ ?_ ?_ <;> (simp; done))))
      · have hdn : ¬ (d : Int) < c.drop + 1 := by omega
        have hdD : d = D + 1 := by omega
        subst hdD
        have hmm : (v + 1) * (c.drop.toNat + 1) = v * (c.drop.toNat + 1) + (D + 1) := by rw [hD1, Nat.add_mul, Nat.one_mul]
        have hs := wksL_succ c a v
        rw [hD1] at hs
        by_cases v0 : v = 0
        · subst v0
          have w1 : IntKind.wrap .i64 1 = 1 := by decide
          simp -dsimp [hdn]
          repeat' (first | omega | (simp -dsimp [E28, ri, cellp, ints, hdn, ncHd, ncT, crS1, aiS0, gone, roS0, spS1, xS, x0, x1, xw, rBs, wBs, wksL_0, wkL_len, w1, cx_g35, cx_t35, cx_d36]) | (refine Also.intro ?_ fun _ => ?_) | (refine Hold.intro fun _ => ?_) | (refine And.intro ?_ ?_))
          refine ⟨⟨1, by omega⟩, tle_kept (kept_upds rfl (kept_forget rfl (kept_upds rfl (kept_forget rfl (kept_upds rfl kept_base))))) ?_, ?_, by simp only; omega⟩
          · simp [okAll, okv]
          · exact (by (try simp -dsimp only [hpush_noH, hpush_hps, hps_over]); refine hle_hps ?_; simp -dsimp [allK, ncHd, ncH, ncT, crS1, aiS0, gone, roS0, spS1, xS, x0, x1, xw, rBs, rB, wBs, hmm, hs, wksL_0]; repeat' (first | (refine And.intro ?_ ?_) | (refine sLe.same ?_ ?_ <;> (simp; done)) | (refine sLe.clear ?_ ?_ <;> (first | (simp; done) | (simp; omega))) | (refine sLe.drop 1 ?_ ?_ ?_ <;> (simp; done))))
        · simp -dsimp [hdn]
          repeat' (first | omega | (simp -dsimp [E28, ri, cellp, ints, hdn, ncHd, ncT, crS1, aiS0, gone, roS0, spS1, xS, x0, x1, xw, rBs, wBs, v0, wksL_len, wkL_len, hv6, wv, cx_g35, cx_t35, cx_d36]) | (refine Also.intro ?_ fun _ => ?_) | (refine Hold.intro fun _ => ?_) | (refine And.intro ?_ ?_))
          refine ⟨⟨v + 1, by omega⟩, tle_kept (kept_upds rfl (kept_forget rfl (kept_upds rfl (kept_forget rfl (kept_upds rfl kept_base))))) ?_, ?_, by simp only; omega⟩
          · simp [okAll, okv]
          · exact (by (try simp -dsimp only [hpush_noH, hpush_hps, hps_over]); refine hle_hps ?_; simp -dsimp [allK, ncHd, ncH, ncT, crS1, aiS0, gone, roS0, spS1, xS, x0, x1, xw, rBs, rB, wBs, v0, hmm, hs]; repeat' (first | (refine And.intro ?_ ?_) | (refine sLe.same ?_ ?_ <;> (simp; done)) | (refine sLe.clear ?_ ?_ <;> (first | (simp; done) | (simp; omega))) | (refine sLe.drop 1 ?_ ?_ ?_ <;> (simp; done))))
  · have hvn : ¬ (v : Int) < c.top + 1 := by omega
    have hvN : v = N + 1 := by omega
    subst hvN
    have hR : (ncF c a).row = c.row ++ [.sl 1 ((rtL c a 0 (N + 1)).map ri), .sl 1 ((rtL c a 1 (N + 1)).map ri), .sl 1 ((wksL c a (N + 1)).map bwI)] := by
      show c.row ++ _ = _
      rw [show (ncF c a).r0 = rtL c a 0 (N + 1) by simp [ncF, hN1], show (ncF c a).r1 = rtL c a 1 (N + 1) by simp [ncF, hN1], show (ncF c a).wk = wksL c a (N + 1) by simp [ncF, hN1]]
    simp -dsimp [hvn]
    repeat' (first | omega | (simp -dsimp [E28, ri, cellp, ints, hvn, ncH, ncT, crS1, aiS0, gone, roS0, spS1, xS, x0, x1, xw, rBs, rB, wBs, hE, hR, cr_lendCs, rtL_len, wksL_len]) | (refine Also.intro ?_ fun _ => ?_) | (refine Hold.intro fun _ => ?_) | (refine And.intro ?_ ?_))
theorem ok28 : FnOK Tryz.prog 28 (.pure ncS) := pure_fn (E := E28) rfl (.cons ok56 (.cons ok39 (.cons ok57 (.cons ok11 (.cons ok58 (.cons ok59 (.cons ok60 (.cons ok61 .nil)))))))) (ok := [(24, ([], [[0, 1, 2, 3, 4, 5, 6, 7, 8, 9, 10, 11, 12, 13, 14, 15, 16, 17, 18, 19, 20, 21, 22, 23]])), (32, ([], [[0, 1, 2, 3, 4, 5, 6, 7, 8, 9, 10, 11, 12, 13, 14, 15, 16]]))]) (fn := Tryz.f28) (by kernel_rfl) (by kernel_rfl) (by kernel_rfl) (by kernel_rfl) rfl (fun _ _ => by simp) b28
end Go.Sx.Rot
