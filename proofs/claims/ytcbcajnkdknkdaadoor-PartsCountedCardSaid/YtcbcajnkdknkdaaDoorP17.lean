/- A part of a proof; no conditions. -/
import Derived.Test.YtcbcajnkdknkdaaDoorP12
set_option linter.unusedSimpArgs false
set_option linter.unusedVariables false
set_option linter.unusedSectionVars false
section
/- Parts: the reference's Cycles. No conditions. -/
set_option linter.unusedSimpArgs false
set_option maxRecDepth 100000
set_option maxHeartbeats 2000000
namespace Go.Sx
open Go.Proofs
attribute [local irreducible] awp

/-- Between two points. -/
structure RefO (P : List Int) (T : List (Int × Int)) where
  k : Nat
  pile : List Int
  out : List (Int × Int)
  b : Nat
  c : Nat
  d : Nat
  hk : k ≤ P.length
  hl : pile.length ≤ k
  hp : Bd pile
  hf : out ++ cyc (P.drop k) pile = T
/-- Between two cycles; w: where the pile lies. -/
structure RefI (P : List Int) (T : List (Int × Int)) (k : Nat) where
  w : Fin 3
  pile : List Int
  out : List (Int × Int)
  b : Nat
  c : Nat
  d : Nat
  h0 : pile ≠ []
  hl : pile.length ≤ k + 1
  hp : Bd pile
  hf : out ++ ((red pile).1 ++ cyc (P.drop (k + 1)) (red pile).2) = T
structure RefT (T : List (Int × Int)) (pile : List Int) where
  i : Nat
  out : List (Int × Int)
  h1 : 1 ≤ i
  hi : i ≤ pile.length + 1
  hf : out ++ (tailC pile).drop (i - 1) = T

def refIV (w : Fin 3) (b c d n : Nat) : V := match w with | 0 => .bsl 3932 b n | 1 => .bsl 3976 c n | 2 => .bsl 3986 d n
def refIH (w : Fin 3) (b c d : Nat) (pile : List Int) (out : List (Int × Int)) : Hp := match w with
  | 0 => hps [(3932, { base := b, blks := [{ z := 1, els := pile.map ri, ty := 3 }] }), (3976, { base := c, blks := [] }), (3986, { base := d, blks := [] }), (3969, { base := 0, blks := [{ z := 2, els := out.map cycV, ty := 30 }] })] noH
  | 1 => hps [(3932, { base := b, blks := [] }), (3976, { base := c, blks := [{ z := 1, els := pile.map ri, ty := 3 }] }), (3986, { base := d, blks := [] }), (3969, { base := 0, blks := [{ z := 2, els := out.map cycV, ty := 30 }] })] noH
  | 2 => hps [(3932, { base := b, blks := [] }), (3976, { base := c, blks := [] }), (3986, { base := d, blks := [{ z := 1, els := pile.map ri, ty := 3 }] }), (3969, { base := 0, blks := [{ z := 2, els := out.map cycV, ty := 30 }] })] noH
noncomputable abbrev E39 : Env := { P := Tryd.prog, fn := tbl [(71, .pure serS), (72, .pure distS), (17, .pure turnS)], own := [76], key := 3900, nt := 115, frz := [(11, [1000000 + 3932006]), (19, [6, 50006])] }
theorem b39 : PureBody E39 [(19, ([8, 9], [[0, 1, 2, 3, 4, 5, 6, 7, 8, 9, 10, 11, 12]]))] Tryd.f39 CyclesS := by
  refine pb ?_
  rintro L hL
  by_cases h0 : serE L = 0
  case neg =>
    simp -dsimp [Tryd.f39, E39, h0]
    repeat' (first | omega | (simp -dsimp [E39, ri, cellp, ints, hL, h0]) | (refine Also.intro ?_ fun _ => ?_) | (refine Hold.intro fun _ => ?_) | (refine And.intro ?_ ?_))
  have hser : L.length ≤ 300 ∧ allB L (-1000000) 1000000 = true := by
    unfold serE at h0
    split at h0
    · cases h0
    · split at h0
      · exact ⟨by omega, by assumption⟩
      · cases h0
  obtain ⟨hL3, hall⟩ := hser
  have hbd : Bd L := by
    intro x hx
    have := List.all_eq_true.1 hall x hx
    simp [withinB] at this; omega
  have hcl := cycles_len L
  have hTb := turn_bd hbd
  have hTl := turn_len L
  have hL6 : L.length ≤ 1000000 := by omega
  simp -dsimp [Tryd.f39, E39, h0]
  repeat' (first | omega | (simp -dsimp [E39, ri, cellp, ints, hL, h0, hL6]) | (refine Also.intro ?_ fun _ => ?_) | (refine Hold.intro fun _ => ?_) | (refine And.intro ?_ ?_))
  have hcyc : cycles L = cyc (turn L) [] := rfl
  generalize hT : cycles L = T at *
  generalize turn L = P at *
  refine awp_loop_g [(6, 3932, 1, 3), (5, 3969, 2, 30)] rfl (by simp) [20, 21, 22, 23, 26, 27, 28, 29, 30, 31, 32, 6, 33, 34, 35, 36, 37, 9, 38, 39, 40, 41, 42, 43, 44, 45, 46, 47, 48, 49, 50, 51, 52, 53, 54, 55, 56, 57, 58, 59, 10, 11, 60, 61, 62, 63, 64, 65, 66, 67, 68, 69, 5, 70, 71, 72, 73, 74, 75, 76, 77, 78, 79, 80, 81, 82, 83, 84, 85, 86, 87, 88, 89, 90, 91, 92, 93, 24, 25, 8] (fun q : RefO P T => [(8, (true, .int .i64 (q.k : Nat))), (6, (true, .bsl 3932 q.b q.pile.length)), (5, (true, .bsl 3969 0 q.out.length))])
    (fun q => hps [(3932, { base := q.b, blks := [{ z := 1, els := q.pile.map ri, ty := 3 }] }), (3976, { base := q.c, blks := [] }), (3986, { base := q.d, blks := [] }), (3969, { base := 0, blks := [{ z := 2, els := q.out.map cycV, ty := 30 }] })] noH) (fun q => P.length - q.k) { k := 0, pile := [], out := [], b := 0, c := 0, d := 0, hk := by simp, hl := by simp, hp := by intro x hx; simp at hx, hf := by simpa using hcyc.symm } ?_ ?_ ?_
  · simp [okAll, okv]
  · exact (by (try simp -dsimp only [hpush_noH, hpush_hps, hps_over]); refine hle_hps ?_; simp -dsimp [allK, ]; repeat' (first | (refine And.intro ?_ ?_) | (refine sLe.same ?_ ?_ <;> (simp; done)) | (refine sLe.clear ?_ ?_ <;> (first | (simp; done) | (simp; omega))) | (refine sLe.drop 1 ?_ ?_ ?_ <;> (simp; done))))
  rintro ⟨k, pile, out, b, c, d, hk, hpl, hpb, hf⟩
  simp only
  by_cases hk1 : k < P.length
  · have hki : (k : Int) < P.length := by omega
    have wk : IntKind.wrap .i64 ((k : Int) + 1) = (k + 1 : Nat) := wrap_id (by omega) (by omega)
    have hdr : P.drop k = P[k] :: P.drop (k + 1) := List.drop_eq_getElem_cons hk1
    rw [hdr, cyc] at hf
    have hpk := hTb _ (List.getElem_mem hk1)
    have hb8 : (pile.length + 1) * 8 ≤ 140737488355328 := by omega
    simp -dsimp [hki]
    repeat' (first | omega | (simp -dsimp [E39, ri, cellp, ints, hki, hk1, hb8, ints]) | (refine Also.intro ?_ fun _ => ?_) | (refine Hold.intro fun _ => ?_) | (refine And.intro ?_ ?_))
    have hpl1 : (pile ++ [P[k]]).length = pile.length + 1 := by simp
    have hmap1 : (pile ++ [P[k]]).map ri = pile.map ri ++ [[V.int .i64 P[k]]] := by simp [ri]
    have hpb1 : Bd (pile ++ [P[k]]) := fun x hx => by
      rcases List.mem_append.1 hx with hx | hx
      · exact hpb x hx
      · simp at hx; subst hx; exact hpk
    rw [← hmap1]
    generalize hU0 : pile ++ [P[k]] = U0 at *
    refine awp_loop [33, 34, 35, 36, 37, 9, 38, 39, 40, 41, 42, 43, 44, 45, 46, 47, 48, 49, 50, 51, 52, 53, 54, 55, 56, 57, 58, 59, 10, 11, 60, 61, 62, 63, 64, 65, 66, 67, 68, 69, 5, 70, 71, 72, 73, 74, 75, 76, 6, 77, 78, 79, 80, 81, 82, 83, 84, 85, 86, 87, 88, 89, 90, 91, 92, 93] (fun q : RefI P T k => [(6, (true, refIV q.w q.b q.c q.d q.pile.length)), (5, (true, .bsl 3969 0 q.out.length))])
      (fun q => refIH q.w q.b q.c q.d q.pile q.out) (fun q => q.pile.length) { w := 0, pile := U0, out := out, b := b, c := c, d := d, h0 := by intro e; rw [e] at hpl1; simp at hpl1, hl := by omega, hp := hpb1, hf := hf } ?_ ?_ ?_
    · simp [okAll, okv, hpl1, refIV]
    · simp only [refIH]; exact (by (try simp -dsimp only [hpush_noH, hpush_hps, hps_over]); refine hle_hps ?_; simp -dsimp [allK, ]; repeat' (first | (refine And.intro ?_ ?_) | (refine sLe.same ?_ ?_ <;> (simp; done)) | (refine sLe.clear ?_ ?_ <;> (first | (simp; done) | (simp; omega))) | (refine sLe.drop 1 ?_ ?_ ?_ <;> (simp; done))))
    clear hf hpb1 hmap1 hpl1 hU0
    rintro ⟨w, U, out, b, c, d, hU0, hUl, hUb, hf⟩
    simp only
    have hol : out.length ≤ T.length := by rw [← hf]; simp
    have ho16 : (out.length + 1) * 16 ≤ 140737488355328 := by omega
    generalize hm : U.length = m at *
    have hm0 : 0 < m := by rw [← hm]; exact List.length_pos_iff.2 hU0
    by_cases h3 : 3 ≤ m
    case neg =>
      rw [red_small (by omega)] at hf
      have h3' : ((3 : Int) ≤ m) = False := eq_false (by omega)
      rcases w with ⟨_ | _ | _ | w, hw⟩
      · simp -dsimp [h3', refIV, refIH]
        repeat' (first | omega | (simp -dsimp [E39, ri, cellp, ints, h3', wk, hm, hm0, hU0]) | (refine Also.intro ?_ fun _ => ?_) | (refine Hold.intro fun _ => ?_) | (refine And.intro ?_ ?_))
        refine ⟨{ k := k + 1, pile := U, out := out, b := b + 1, c := c, d := d, hk := by omega, hl := by omega, hp := hUb, hf := hf }, tle_kept (kept_upds rfl (kept_forget rfl (kept_upds rfl kept_base))) ?_, (by (try simp -dsimp only [hpush_noH, hpush_hps, hps_over]); refine hle_hps ?_; simp -dsimp [allK, ]; repeat' (first | (refine And.intro ?_ ?_) | (refine sLe.same ?_ ?_ <;> (simp; done)) | (refine sLe.clear ?_ ?_ <;> (first | (simp; done) | (simp; omega))) | (refine sLe.drop 1 ?_ ?_ ?_ <;> (simp; done)))), by simp only; omega⟩
        simp [okAll, okv, hm]
      · simp -dsimp [h3', refIV, refIH]
        repeat' (first | omega | (simp -dsimp [E39, ri, cellp, ints, h3', wk, hm, hm0, hU0]) | (refine Also.intro ?_ fun _ => ?_) | (refine Hold.intro fun _ => ?_) | (refine And.intro ?_ ?_))
        refine ⟨{ k := k + 1, pile := U, out := out, b := b, c := c + 1, d := d, hk := by omega, hl := by omega, hp := hUb, hf := hf }, tle_kept (kept_upds rfl (kept_forget rfl (kept_upds rfl kept_base))) ?_, (by (try simp -dsimp only [hpush_noH, hpush_hps, hps_over]); refine hle_hps ?_; simp -dsimp [allK, ]; repeat' (first | (refine And.intro ?_ ?_) | (refine sLe.same ?_ ?_ <;> (simp; done)) | (refine sLe.clear ?_ ?_ <;> (first | (simp; done) | (simp; omega))) | (refine sLe.drop 1 ?_ ?_ ?_ <;> (simp; done)))), by simp only; omega⟩
        simp [okAll, okv, hm]
      · simp -dsimp [h3', refIV, refIH]
        repeat' (first | omega | (simp -dsimp [E39, ri, cellp, ints, h3', wk, hm, hm0, hU0]) | (refine Also.intro ?_ fun _ => ?_) | (refine Hold.intro fun _ => ?_) | (refine And.intro ?_ ?_))
        refine ⟨{ k := k + 1, pile := U, out := out, b := b, c := c, d := d + 1, hk := by omega, hl := by omega, hp := hUb, hf := hf }, tle_kept (kept_upds rfl (kept_forget rfl (kept_upds rfl kept_base))) ?_, (by (try simp -dsimp only [hpush_noH, hpush_hps, hps_over]); refine hle_hps ?_; simp -dsimp [allK, ]; repeat' (first | (refine And.intro ?_ ?_) | (refine sLe.same ?_ ?_ <;> (simp; done)) | (refine sLe.clear ?_ ?_ <;> (first | (simp; done) | (simp; omega))) | (refine sLe.drop 1 ?_ ?_ ?_ <;> (simp; done)))), by simp only; omega⟩
        simp [okAll, okv, hm]
      · omega
    have h3' : (3 : Int) ≤ m := by omega
    have l1 : m - 1 < U.length := by omega
    have l2 : m - 2 < U.length := by omega
    have l3 : m - 3 < U.length := by omega
    have e1 : U[m - 1]? = some U[m - 1] := List.getElem?_eq_getElem l1
    have e2 : U[m - 2]? = some U[m - 2] := List.getElem?_eq_getElem l2
    have e3 : U[m - 3]? = some U[m - 3] := List.getElem?_eq_getElem l3
    have g1 : U.getD (m - 1) 0 = U[m - 1] := by simp [List.getD, e1]
    have g2 : U.getD (m - 2) 0 = U[m - 2] := by simp [List.getD, e2]
    have g3 : U.getD (m - 3) 0 = U[m - 3] := by simp [List.getD, e3]
    have d1 := hUb _ (List.getElem_mem l1)
    have d2 := hUb _ (List.getElem_mem l2)
    have d3 := hUb _ (List.getElem_mem l3)
    have w1 : IntKind.wrap .i64 ((m : Int) - 1) = (m - 1 : Nat) := by rw [wrap_id (by omega) (by omega)]; omega
    have w2 : IntKind.wrap .i64 ((m : Int) - 2) = (m - 2 : Nat) := by rw [wrap_id (by omega) (by omega)]; omega
    have w3 : IntKind.wrap .i64 ((m : Int) - 3) = (m - 3 : Nat) := by rw [wrap_id (by omega) (by omega)]; omega
    have rs := red_stop (pile := U) (by omega)
    have rh := red_half (pile := U)
    have rw' := red_whole (pile := U)
    have hdrop : U.drop (m - 1) = [U[m - 1]] := by rw [List.drop_eq_getElem_cons l1, List.drop_eq_nil_of_le (by omega)]
    have hdr3 : m = 3 → U.drop 1 = [U[m - 2], U[m - 1]] := by
      intro e
      subst e
      rw [List.drop_eq_getElem_cons (by omega), List.drop_eq_getElem_cons (by omega), List.drop_eq_nil_of_le (by omega)]
    rw [hm, g1, g2, g3] at rs rh rw'
    generalize hu1 : U[m - 1] = u1 at *
    generalize hu2 : U[m - 2] = u2 at *
    generalize hu3 : U[m - 3] = u3 at *
    have dd1 : ((-4000000000000 : Int) ≤ u1 ∧ u1 ≤ 4000000000000) := by omega
    have dd2 : ((-4000000000000 : Int) ≤ u2 ∧ u2 ≤ 4000000000000) := by omega
    have dd3 : ((-4000000000000 : Int) ≤ u3 ∧ u3 ≤ 4000000000000) := by omega
    generalize hx : dist u1 u2 = x at *
    generalize hy : dist u2 u3 = y at *
    by_cases hxy : x < y
    · rw [rs hxy] at hf
      have hxy' : (x < y) = True := eq_true hxy
      rcases w with ⟨_ | _ | _ | w, hw⟩
      · simp -dsimp [h3', refIV, refIH]
        repeat' (first | omega | (simp -dsimp [E39, ri, cellp, ints, h3', wk, hm, hm0, hU0, l1, l2, l3, e1, e2, e3, hu1, hu2, hu3, w1, w2, w3, dd1, dd2, dd3, hx, hy, hxy']) | (refine Also.intro ?_ fun _ => ?_) | (refine Hold.intro fun _ => ?_) | (refine And.intro ?_ ?_))
        refine ⟨{ k := k + 1, pile := U, out := out, b := b + 1, c := c, d := d, hk := by omega, hl := by omega, hp := hUb, hf := hf }, tle_kept (kept_upds rfl (kept_forget rfl (kept_upds rfl kept_base))) ?_, (by (try simp -dsimp only [hpush_noH, hpush_hps, hps_over]); refine hle_hps ?_; simp -dsimp [allK, ]; repeat' (first | (refine And.intro ?_ ?_) | (refine sLe.same ?_ ?_ <;> (simp; done)) | (refine sLe.clear ?_ ?_ <;> (first | (simp; done) | (simp; omega))) | (refine sLe.drop 1 ?_ ?_ ?_ <;> (simp; done)))), by simp only; omega⟩
        simp [okAll, okv, hm]
      · simp -dsimp [h3', refIV, refIH]
        repeat' (first | omega | (simp -dsimp [E39, ri, cellp, ints, h3', wk, hm, hm0, hU0, l1, l2, l3, e1, e2, e3, hu1, hu2, hu3, w1, w2, w3, dd1, dd2, dd3, hx, hy, hxy']) | (refine Also.intro ?_ fun _ => ?_) | (refine Hold.intro fun _ => ?_) | (refine And.intro ?_ ?_))
        refine ⟨{ k := k + 1, pile := U, out := out, b := b, c := c + 1, d := d, hk := by omega, hl := by omega, hp := hUb, hf := hf }, tle_kept (kept_upds rfl (kept_forget rfl (kept_upds rfl kept_base))) ?_, (by (try simp -dsimp only [hpush_noH, hpush_hps, hps_over]); refine hle_hps ?_; simp -dsimp [allK, ]; repeat' (first | (refine And.intro ?_ ?_) | (refine sLe.same ?_ ?_ <;> (simp; done)) | (refine sLe.clear ?_ ?_ <;> (first | (simp; done) | (simp; omega))) | (refine sLe.drop 1 ?_ ?_ ?_ <;> (simp; done)))), by simp only; omega⟩
        simp [okAll, okv, hm]
      · simp -dsimp [h3', refIV, refIH]
        repeat' (first | omega | (simp -dsimp [E39, ri, cellp, ints, h3', wk, hm, hm0, hU0, l1, l2, l3, e1, e2, e3, hu1, hu2, hu3, w1, w2, w3, dd1, dd2, dd3, hx, hy, hxy']) | (refine Also.intro ?_ fun _ => ?_) | (refine Hold.intro fun _ => ?_) | (refine And.intro ?_ ?_))
        refine ⟨{ k := k + 1, pile := U, out := out, b := b, c := c, d := d + 1, hk := by omega, hl := by omega, hp := hUb, hf := hf }, tle_kept (kept_upds rfl (kept_forget rfl (kept_upds rfl kept_base))) ?_, (by (try simp -dsimp only [hpush_noH, hpush_hps, hps_over]); refine hle_hps ?_; simp -dsimp [allK, ]; repeat' (first | (refine And.intro ?_ ?_) | (refine sLe.same ?_ ?_ <;> (simp; done)) | (refine sLe.clear ?_ ?_ <;> (first | (simp; done) | (simp; omega))) | (refine sLe.drop 1 ?_ ?_ ?_ <;> (simp; done)))), by simp only; omega⟩
        simp [okAll, okv, hm]
      · omega
    have hxy' : (x < y) = False := eq_false hxy
    by_cases hm3 : m = 3
    · rw [rh hm3 hxy] at hf
      have hf1 : (out ++ [(y, 1)]) ++ ((red (U.drop 1)).1 ++ cyc (P.drop (k + 1)) (red (U.drop 1)).2) = T := by rw [← hf]; simp
      have hm3i : ((m : Int) = 3) = True := eq_true (by omega)
      have f1 : U[1]? = some u2 := by rw [← e2, hm3]
      have f2 : U[2]? = some u1 := by rw [← e1, hm3]
      have k1 : 1 < U.length := by omega
      have k2 : 2 < U.length := by omega
      have hd3 := hdr3 hm3
      have hV1 : ∀ z ∈ U.drop 1, z ∈ U := fun z hz => List.mem_of_mem_drop hz
      rw [hd3] at hf1 hV1
      rcases w with ⟨_ | _ | _ | w, hw⟩
      · simp -dsimp [h3', refIV, refIH]
        repeat' (first | omega | (simp -dsimp [E39, ri, cellp, ints, h3', wk, hm, hm0, hU0, l1, l2, l3, e1, e2, e3, hu1, hu2, hu3, w1, w2, w3, dd1, dd2, dd3, hx, hy, hxy', hm3i, f1, f2, k1, k2, ho16]) | (refine Also.intro ?_ fun _ => ?_) | (refine Hold.intro fun _ => ?_) | (refine And.intro ?_ ?_))
        refine ⟨{ w := 1, pile := [u2, u1], out := out ++ [(y, 1)], b := b + 2, c := c, d := d, h0 := by simp, hl := by simp; omega, hp := fun z hz => hUb z (hV1 z hz), hf := hf1 }, tle_chain rfl ?_, (by simp only [refIH]; exact (by (try simp -dsimp only [hpush_noH, hpush_hps, hps_over]); refine hle_hps ?_; simp -dsimp [allK, cycV, ri]; repeat' (first | (refine And.intro ?_ ?_) | (refine sLe.same ?_ ?_ <;> (simp; done)) | (refine sLe.clear ?_ ?_ <;> (first | (simp; done) | (simp; omega))) | (refine sLe.drop 1 ?_ ?_ ?_ <;> (simp; done))))), by simp; omega⟩
        simp [okAll, okv, hm, refIV]
      · simp -dsimp [h3', refIV, refIH]
        repeat' (first | omega | (simp -dsimp [E39, ri, cellp, ints, h3', wk, hm, hm0, hU0, l1, l2, l3, e1, e2, e3, hu1, hu2, hu3, w1, w2, w3, dd1, dd2, dd3, hx, hy, hxy', hm3i, f1, f2, k1, k2, ho16]) | (refine Also.intro ?_ fun _ => ?_) | (refine Hold.intro fun _ => ?_) | (refine And.intro ?_ ?_))
        refine ⟨{ w := 1, pile := [u2, u1], out := out ++ [(y, 1)], b := b + 1, c := c + 1, d := d, h0 := by simp, hl := by simp; omega, hp := fun z hz => hUb z (hV1 z hz), hf := hf1 }, tle_chain rfl ?_, (by simp only [refIH]; exact (by (try simp -dsimp only [hpush_noH, hpush_hps, hps_over]); refine hle_hps ?_; simp -dsimp [allK, cycV, ri]; repeat' (first | (refine And.intro ?_ ?_) | (refine sLe.same ?_ ?_ <;> (simp; done)) | (refine sLe.clear ?_ ?_ <;> (first | (simp; done) | (simp; omega))) | (refine sLe.drop 1 ?_ ?_ ?_ <;> (simp; done))))), by simp; omega⟩
        simp [okAll, okv, hm, refIV]
      · simp -dsimp [h3', refIV, refIH]
        repeat' (first | omega | (simp -dsimp [E39, ri, cellp, ints, h3', wk, hm, hm0, hU0, l1, l2, l3, e1, e2, e3, hu1, hu2, hu3, w1, w2, w3, dd1, dd2, dd3, hx, hy, hxy', hm3i, f1, f2, k1, k2, ho16]) | (refine Also.intro ?_ fun _ => ?_) | (refine Hold.intro fun _ => ?_) | (refine And.intro ?_ ?_))
        refine ⟨{ w := 1, pile := [u2, u1], out := out ++ [(y, 1)], b := b + 1, c := c, d := d + 1, h0 := by simp, hl := by simp; omega, hp := fun z hz => hUb z (hV1 z hz), hf := hf1 }, tle_chain rfl ?_, (by simp only [refIH]; exact (by (try simp -dsimp only [hpush_noH, hpush_hps, hps_over]); refine hle_hps ?_; simp -dsimp [allK, cycV, ri]; repeat' (first | (refine And.intro ?_ ?_) | (refine sLe.same ?_ ?_ <;> (simp; done)) | (refine sLe.clear ?_ ?_ <;> (first | (simp; done) | (simp; omega))) | (refine sLe.drop 1 ?_ ?_ ?_ <;> (simp; done))))), by simp; omega⟩
        simp [okAll, okv, hm, refIV]
      · omega
    · rw [rw' (by omega) hxy] at hf
      have hf1 : (out ++ [(y, 2)]) ++ ((red (U.take (m - 3) ++ U.drop (m - 1))).1 ++ cyc (P.drop (k + 1)) (red (U.take (m - 3) ++ U.drop (m - 1))).2) = T := by rw [← hf]; simp
      have hm3i : ((m : Int) = 3) = False := eq_false (by omega)
      have htb : (m - 3 + 1) * 8 ≤ 140737488355328 := by omega
      have htb0 : (m - 3) * 8 ≤ 140737488355328 := by omega
      have hmp : List.take (m - 3) (U.map ri) ++ [[V.int .i64 u1]] = (U.take (m - 3) ++ [u1]).map ri := by simp [ri]
      have hml : (U.take (m - 3)).length = m - 3 := by simp; omega
      rw [hdrop] at hf1
      have hVl : (U.take (m - 3) ++ [u1]).length + 2 = m := by simp; omega
      have hVb : Bd (U.take (m - 3) ++ [u1]) := fun z hz => by
        rcases List.mem_append.1 hz with hz | hz
        · exact hUb z (List.mem_of_mem_take hz)
        · simp at hz; subst hz; omega
      rcases w with ⟨_ | _ | _ | w, hw⟩
      · simp -dsimp [h3', refIV, refIH]
        repeat' (first | omega | (simp -dsimp [E39, ri, cellp, ints, h3', wk, hm, hm0, hU0, l1, l2, l3, e1, e2, e3, hu1, hu2, hu3, w1, w2, w3, dd1, dd2, dd3, hx, hy, hxy', hm3i, ho16, htb, htb0, hml, FreeAt]) | (refine Also.intro ?_ fun _ => ?_) | (refine Hold.intro fun _ => ?_) | (refine And.intro ?_ ?_))
        refine ⟨{ w := 2, pile := U.take (m - 3) ++ [u1], out := out ++ [(y, 2)], b := b + 2, c := c, d := d, h0 := by simp, hl := by omega, hp := hVb, hf := hf1 }, tle_chain rfl ?_, (by simp only [refIH]; exact (by (try simp -dsimp only [hpush_noH, hpush_hps, hps_over]); refine hle_hps ?_; simp -dsimp [allK, cycV, ri]; repeat' (first | (refine And.intro ?_ ?_) | (refine sLe.same ?_ ?_ <;> (simp; done)) | (refine sLe.clear ?_ ?_ <;> (first | (simp; done) | (simp; omega))) | (refine sLe.drop 1 ?_ ?_ ?_ <;> (simp; done))))), by simp only; omega⟩
        simp [okAll, okv, hm, refIV, hml]
      · simp -dsimp [h3', refIV, refIH]
        repeat' (first | omega | (simp -dsimp [E39, ri, cellp, ints, h3', wk, hm, hm0, hU0, l1, l2, l3, e1, e2, e3, hu1, hu2, hu3, w1, w2, w3, dd1, dd2, dd3, hx, hy, hxy', hm3i, ho16, htb, htb0, hml, FreeAt]) | (refine Also.intro ?_ fun _ => ?_) | (refine Hold.intro fun _ => ?_) | (refine And.intro ?_ ?_))
        refine ⟨{ w := 2, pile := U.take (m - 3) ++ [u1], out := out ++ [(y, 2)], b := b + 1, c := c + 1, d := d, h0 := by simp, hl := by omega, hp := hVb, hf := hf1 }, tle_chain rfl ?_, (by simp only [refIH]; exact (by (try simp -dsimp only [hpush_noH, hpush_hps, hps_over]); refine hle_hps ?_; simp -dsimp [allK, cycV, ri]; repeat' (first | (refine And.intro ?_ ?_) | (refine sLe.same ?_ ?_ <;> (simp; done)) | (refine sLe.clear ?_ ?_ <;> (first | (simp; done) | (simp; omega))) | (refine sLe.drop 1 ?_ ?_ ?_ <;> (simp; done))))), by simp only; omega⟩
        simp [okAll, okv, hm, refIV, hml]
      · simp -dsimp [h3', refIV, refIH]
        repeat' (first | omega | (simp -dsimp [E39, ri, cellp, ints, h3', wk, hm, hm0, hU0, l1, l2, l3, e1, e2, e3, hu1, hu2, hu3, w1, w2, w3, dd1, dd2, dd3, hx, hy, hxy', hm3i, ho16, htb, htb0, hml, FreeAt]) | (refine Also.intro ?_ fun _ => ?_) | (refine Hold.intro fun _ => ?_) | (refine And.intro ?_ ?_))
        refine ⟨{ w := 2, pile := U.take (m - 3) ++ [u1], out := out ++ [(y, 2)], b := b + 1, c := c, d := d + 1, h0 := by simp, hl := by omega, hp := hVb, hf := hf1 }, tle_chain rfl ?_, (by simp only [refIH]; exact (by (try simp -dsimp only [hpush_noH, hpush_hps, hps_over]); refine hle_hps ?_; simp -dsimp [allK, cycV, ri]; repeat' (first | (refine And.intro ?_ ?_) | (refine sLe.same ?_ ?_ <;> (simp; done)) | (refine sLe.clear ?_ ?_ <;> (first | (simp; done) | (simp; omega))) | (refine sLe.drop 1 ?_ ?_ ?_ <;> (simp; done))))), by simp only; omega⟩
        simp [okAll, okv, hm, refIV, hml]
      · omega
  have hke : k = P.length := by omega
  subst hke
  rw [List.drop_length, cyc] at hf
  generalize hm : pile.length = m at *
  have hkn : ¬ (P.length : Int) < P.length := by omega
  simp -dsimp [hkn]
  repeat' (first | omega | (simp -dsimp [E39, ri, cellp, ints, hkn, hm]) | (refine Also.intro ?_ fun _ => ?_) | (refine Hold.intro fun _ => ?_) | (refine And.intro ?_ ?_))
  refine awp_loop [94, 95, 96, 97, 100, 101, 102, 103, 104, 105, 106, 107, 108, 109, 110, 111, 112, 113, 5, 98, 99, 12] (fun q : RefT T pile => [(12, (true, .int .i64 (q.i : Nat))), (5, (true, .bsl 3969 0 q.out.length))])
    (fun q => hps [(3932, { base := b, blks := [{ z := 1, els := pile.map ri, ty := 3 }] }), (3976, { base := c, blks := [] }), (3986, { base := d, blks := [] }), (3969, { base := 0, blks := [{ z := 2, els := q.out.map cycV, ty := 30 }] })] noH) (fun q => m + 1 - q.i) { i := 1, out := out, h1 := by omega, hi := by omega, hf := by simpa using hf } ?_ ?_ ?_
  · simp [okAll, okv]
  · exact (by (try simp -dsimp only [hpush_noH, hpush_hps, hps_over]); refine hle_hps ?_; simp -dsimp [allK, ]; repeat' (first | (refine And.intro ?_ ?_) | (refine sLe.same ?_ ?_ <;> (simp; done)) | (refine sLe.clear ?_ ?_ <;> (first | (simp; done) | (simp; omega))) | (refine sLe.drop 1 ?_ ?_ ?_ <;> (simp; done))))
  clear hf
  rintro ⟨i, out, hi0, hi, hf⟩
  simp only
  have hol : out.length ≤ T.length := by rw [← hf]; simp
  have ho16 : (out.length + 1) * 16 ≤ 140737488355328 := by omega
  by_cases hi1 : i < m
  case neg =>
    have hnil : (tailC pile).drop (i - 1) = [] := List.drop_eq_nil_of_le (by simp [tailC]; omega)
    rw [hnil, List.append_nil] at hf
    have hin : ((i : Int) < m) = False := eq_false (by omega)
    simp -dsimp [hin]
    repeat' (first | omega | (simp -dsimp [E39, ri, cellp, ints, hin, hm, hf]) | (refine Also.intro ?_ fun _ => ?_) | (refine Hold.intro fun _ => ?_) | (refine And.intro ?_ ?_))
  have hii : (i : Int) < m := by omega
  have wi : IntKind.wrap .i64 ((i : Int) + 1) = (i + 1 : Nat) := wrap_id (by omega) (by omega)
  have l1 : i < pile.length := by omega
  have l2 : i - 1 < pile.length := by omega
  have e1 : pile[i]? = some pile[i] := List.getElem?_eq_getElem l1
  have e2 : pile[i - 1]? = some pile[i - 1] := List.getElem?_eq_getElem l2
  have g1 : pile.getD i 0 = pile[i] := by simp [List.getD, e1]
  have g2 : pile.getD (i - 1) 0 = pile[i - 1] := by simp [List.getD, e2]
  have d1 := hpb _ (List.getElem_mem l1)
  have d2 := hpb _ (List.getElem_mem l2)
  have w1 : IntKind.wrap .i64 ((i : Int) - 1) = (i - 1 : Nat) := by rw [wrap_id (by omega) (by omega)]; omega
  have htd := tailC_drop (pile := pile) (i := i - 1) (by omega)
  rw [show i - 1 + 1 = i by omega, g1, g2] at htd
  generalize hu1 : pile[i] = u1 at *
  generalize hu2 : pile[i - 1] = u2 at *
  have dd1 : ((-4000000000000 : Int) ≤ u1 ∧ u1 ≤ 4000000000000) := by omega
  have dd2 : ((-4000000000000 : Int) ≤ u2 ∧ u2 ≤ 4000000000000) := by omega
  generalize hx : dist u1 u2 = x at *
  rw [htd] at hf
  have hf1 : (out ++ [(x, 1)]) ++ (tailC pile).drop i = T := by rw [← hf]; simp
  simp -dsimp [hii]
  repeat' (first | omega | (simp -dsimp [E39, ri, cellp, ints, hii, hm, l1, l2, e1, e2, hu1, hu2, w1, wi, dd1, dd2, hx, ho16]) | (refine Also.intro ?_ fun _ => ?_) | (refine Hold.intro fun _ => ?_) | (refine And.intro ?_ ?_))
  refine ⟨{ i := i + 1, out := out ++ [(x, 1)], h1 := by omega, hi := by omega, hf := hf1 }, tle_chain rfl ?_, (by (try simp -dsimp only [hpush_noH, hpush_hps, hps_over]); refine hle_hps ?_; simp -dsimp [allK, cycV]; repeat' (first | (refine And.intro ?_ ?_) | (refine sLe.same ?_ ?_ <;> (simp; done)) | (refine sLe.clear ?_ ?_ <;> (first | (simp; done) | (simp; omega))) | (refine sLe.drop 1 ?_ ?_ ?_ <;> (simp; done)))), by simp only; omega⟩
  simp [okAll, okv]
theorem ok39 : FnOK Tryd.prog 39 (.pure CyclesS) := pure_fn (E := E39) rfl (.cons ok71 (.cons ok72 (.cons ok17 .nil))) (ok := [(19, ([8, 9], [[0, 1, 2, 3, 4, 5, 6, 7, 8, 9, 10, 11, 12]]))]) (fn := Tryd.f39) (by kernel_rfl) (by kernel_rfl) (by kernel_rfl) (by kernel_rfl) rfl (fun _ _ => by simp) b39
end Go.Sx
end
section
/- Parts: a list from its end. No conditions. -/
set_option linter.unusedSimpArgs false
set_option maxRecDepth 100000
set_option maxHeartbeats 1000000
namespace Go.Sx
open Go.Proofs
attribute [local irreducible] awp

def backS : HSpec where
  go args h := match args with
    | [.sl z els] => ⟨z = 2, .fn 91 [.bptr 7301 (hnext h 7301) 1 0 0], hpush h 7301 { z := 1, els := [[.sl z els]], ty := 26 }⟩
    | _ => ⟨False, .top, h⟩
noncomputable abbrev E73 : Env := { P := Tryd.prog, fn := tbl [], own := [], key := 7300, nt := 4 }
theorem b73 : HeapBody E73 [] Tryd.f73 backS := by
  intro args h hc
  match args, hc with
  | [.sl z els], hc =>
    have hn := hget_push_new h 7301 { z := 1, els := [[.sl z els]], ty := 26 }
    simp -dsimp [Tryd.f73, E73, backS]
    repeat' (first | omega | (simp -dsimp [E73, ri, cellp, ints, hn]) | (refine Also.intro ?_ fun _ => ?_) | (refine Hold.intro fun _ => ?_) | (refine And.intro ?_ ?_))
theorem ok73 : FnOK Tryd.prog 73 (.heap backS) := heap_fn (E := E73) rfl LOK.nil (ok := []) (fn := Tryd.f73) (by kernel_rfl) (by kernel_rfl) (by kernel_rfl) (by kernel_rfl) rfl (fun args h hc => by match args, hc with | [.sl z els], hc => simp) b73
/-- A list's elements from its n-th down to its first. -/
def bkTo (S : List (Int × Int)) : Nat → List (List V)
  | 0 => []
  | n + 1 => [.int .i64 (n : Nat), .agg (cycV (S.getD n (0, 0)))] :: bkTo S n
def backDec (caps : List V) (h : Hp) : Prop × List (List V) := match caps with
  | [.bptr s i n e j] => match hget h s i with
    | some B => ((s = 7301 ∧ n = 1 ∧ e = 0 ∧ j = 0) ∧ B.z = 1 ∧ ∃ S : List (Int × Int), B.els = [[prs S]] ∧ S.length ≤ 1000000, bkTo ((B.els.getD 0 []).getD 0 .top).toPrs ((B.els.getD 0 []).getD 0 .top).toPrs.length)
    | none => (False, [])
  | _ => (False, [])
theorem backDec_inv {caps : List V} {h : Hp} (hc : (backDec caps h).1) : ∃ i B, ∃ S : List (Int × Int), caps = [.bptr 7301 i 1 0 0] ∧ hget h 7301 i = some B ∧ B.z = 1 ∧ B.els = [[prs S]] ∧ S.length ≤ 1000000 ∧ (backDec caps h).2 = bkTo S S.length := by
  match caps, hc with
  | [.bptr s i n e j], hc =>
    cases hB : hget h s i with
    | none => simp only [backDec, hB] at hc
    | some B =>
      simp only [backDec, hB] at hc
      obtain ⟨⟨rfl, rfl, rfl, rfl⟩, hz, S, hL, h6⟩ := hc
      refine ⟨i, B, S, rfl, hB, hz, hL, h6, ?_⟩
      simp only [backDec, hB, hL]
      simp
def bckS : Nat → HSpec → HSpec := itS [] [7301] backDec
structure BackO (Y : HSpec) (FH h : Hp) (S : List (Int × Int)) where
  n : Nat
  H : Hp
  hn : n ≤ S.length
  hH : H 7301 = h 7301
  hf : (feed Y (bkTo S n) H).1 ∧ (feed Y (bkTo S n) H).2 = FH
noncomputable abbrev E91 : Env := { P := Tryd.prog, fn := tbl [], own := [], key := 9100, nt := 19 }
theorem b91 : IterBody E91 [] Tryd.f91 bckS := by
  intro l Y args h hc hyb hyf
  obtain ⟨caps, rfl, hloc, -, hd, hfd, hv, hh⟩ := its_inv hc
  obtain ⟨i, B, S, rfl, hB, hz, hL, hS, hdec⟩ := backDec_inv hd
  rw [hdec] at hfd hh
  unfold bckS
  rw [hv, hh]
  clear hv hh hc hd hdec
  obtain ⟨z, els, ty, fz, cl⟩ := B
  simp only at hz hL
  subst hz hL
  obtain ⟨FH, hFH⟩ : ∃ FH, (feed Y (bkTo S S.length) h).2 = FH := ⟨_, rfl⟩
  rw [hFH]
  have hps0 : ∀ H : Hp, hps [] H = H := fun _ => rfl
  have w1 : IntKind.wrap .i64 ((S.length : Int) - 1) = (S.length : Int) - 1 := wrap_id (by omega) (by omega)
  simp -dsimp [Tryd.f91, E91, prs]
  repeat' (first | omega | (simp -dsimp [E91, ri, cellp, ints, hB, w1, prs]) | (refine Also.intro ?_ fun _ => ?_) | (refine Hold.intro fun _ => ?_) | (refine And.intro ?_ ?_))
  refine awp_loop [7, 8, 11, 12, 13, 14, 15, 16, 17, 18, 9, 10, 3] (fun q : BackO Y FH h S => [(3, (true, .int .i64 ((q.n : Int) - 1)))])
    (fun q => q.H) (fun q => q.n) { n := S.length, H := h, hn := by omega, hH := rfl, hf := ⟨hfd, hFH⟩ } ?_ (HLe.refl _) ?_
  · simp [okAll, okv]
  clear hfd hFH w1
  rintro ⟨n, H, hn, hH, ⟨hfd, hFH⟩⟩
  simp only
  have hBH : hget H 7301 i = some { z := 1, els := [[.sl 2 (S.map cycV)]], ty := ty, fz := fz, cl := cl } := by
    rw [← show prs S = V.sl 2 (S.map cycV) from rfl, ← hB]; unfold hget; rw [hH]
  cases n with
  | zero =>
    have hFH' : H = FH := hFH
    subst hFH'
    have hle : HLe H H := HLe.refl H
    simp -dsimp
    repeat' (first | omega | (simp -dsimp [E91, ri, cellp, ints, hle, hps0]) | (refine Also.intro ?_ fun _ => ?_) | (refine Hold.intro fun _ => ?_) | (refine And.intro ?_ ?_))
  | succ m =>
    have hm : m < S.length := by omega
    have e1 : S[m]? = some S[m] := List.getElem?_eq_getElem hm
    have g1 : S.getD m (0, 0) = S[m] := by simp [List.getD, e1]
    rw [bkTo, g1] at hfd hFH
    have hmi : ((m + 1 : Nat) : Int) - 1 = (m : Nat) := by omega
    have hm0 : (0 : Int) ≤ (m : Nat) := by omega
    have wm : IntKind.wrap .i64 ((m : Int) - 1) = (m : Int) - 1 := wrap_id (by omega) (by omega)
    obtain ⟨hc, bb, hv, ht, hf⟩ := feed_step hfd
    have hgo := hloc.go hc hv []
    have hro := hloc.ro _ _ hc 7301 (by simp)
    rw [hH] at hro
    rw [show ∀ H : Hp, hps [] H = H from fun _ => rfl] at hgo
    rw [hmi]
    simp only [cycV] at hgo hf ht hfd hFH hro
    cases bb with
    | false =>
      rw [hf rfl] at hFH
      generalize (Y.go [.int .i64 (m : Nat), .agg [.int .i64 S[m].1, .int .i64 S[m].2]] H).h = H' at *
      subst hFH
      have hle : ∀ H : Hp, HLe H H := HLe.refl
      simp -dsimp
      repeat' (first | omega | (simp -dsimp [E91, ri, cellp, ints, hBH, hm, e1, cycV, hgo, hle, hps0]) | (refine Also.intro ?_ fun _ => ?_) | (refine Hold.intro fun _ => ?_) | (refine And.intro ?_ ?_))
    | true =>
      obtain ⟨hf1, hf2⟩ := ht rfl
      rw [hf2] at hFH
      generalize (Y.go [.int .i64 (m : Nat), .agg [.int .i64 S[m].1, .int .i64 S[m].2]] H).h = H' at *
      simp -dsimp
      repeat' (first | omega | (simp -dsimp [E91, ri, cellp, ints, hBH, hm, e1, cycV, hgo, wm, hps0]) | (refine Also.intro ?_ fun _ => ?_) | (refine Hold.intro fun _ => ?_) | (refine And.intro ?_ ?_))
      refine ⟨{ n := m, H := H', hn := by omega, hH := hro, hf := ⟨hf1, hFH⟩ }, tle_chain rfl ?_, HLe.refl _, by simp only; omega⟩
      simp [okAll, okv]
theorem ok91 : FnOK Tryd.prog 91 (.iter bckS) := iter_fn (E := E91) rfl LOK.nil (ok := []) (fn := Tryd.f91) (by kernel_rfl) (by kernel_rfl) (by kernel_rfl) (fun _ _ => by kernel_rfl) rfl (fun l Y args h hc => by obtain ⟨_, rfl, _, _, hd, _⟩ := its_inv hc; obtain ⟨_, _, _, rfl, _⟩ := backDec_inv hd; simp) (fun f S hf => by cases hf) b91
end Go.Sx
end
section
/- Parts: the reference's Damage. No conditions. -/
set_option linter.unusedSimpArgs false
set_option maxRecDepth 100000
set_option maxHeartbeats 2000000
namespace Go.Sx
open Go.Proofs
attribute [local irreducible] awp

/-- The damage of the last of the first n steps that a size reaches. -/
def stepAt (S : List (Int × Int)) (size : Int) : Nat → Int
  | 0 => 0
  | n + 1 => if (S.getD n (0, 0)).1 ≤ size then (S.getD n (0, 0)).2 else stepAt S size n
def stepOk (S : List (Int × Int)) (i : Nat) : Bool := withinB (S.getD i (0, 0)).1 0 1000000 && withinB (S.getD i (0, 0)).2 0 1000000 && !(decide (0 < i) && decide ((S.getD i (0, 0)).1 ≤ (S.getD (i - 1) (0, 0)).1))
def okSteps (S : List (Int × Int)) : Bool := (List.range S.length).all (stepOk S)
def dmgTo (S C : List (Int × Int)) : Nat → Int
  | 0 => 0
  | i + 1 => dmgTo S C i + (C.getD i (0, 0)).2 * stepAt S (C.getD i (0, 0)).1 S.length
def damE (L : List Int) (S : List (Int × Int)) : Int := if serE L = 0 then if 8 < S.length then 1 else if okSteps S then 0 else 1 else serE L
abbrev damS : PSpec := { dom := List Int × List (Int × Int), enc := fun d => [ints d.1, prs d.2], dec := fun l => ((l.getD 0 .top).toInts, (l.getD 1 .top).toPrs), pre := fun d => d.1.length ≤ 9223372036854775807 ∧ d.2.length ≤ 9223372036854775807, res := fun d => .tup [.int .i64 (if damE d.1 d.2 = 0 then dmgTo d.2 (cycles d.1) (cycles d.1).length else 0), .int .i64 (damE d.1 d.2)] }
theorem red_w : ∀ (n : Nat) (pile : List Int), pile.length = n → ∀ c ∈ (red pile).1, 1 ≤ c.2 ∧ c.2 ≤ 2 := by
  intro n
  induction n using Nat.strongRecOn with
  | _ n ih =>
    intro pile hn
    by_cases h : 3 ≤ pile.length
    case neg => rw [red_small (by omega)]; simp
    by_cases h1 : dist (pile.getD (pile.length - 1) 0) (pile.getD (pile.length - 2) 0) < dist (pile.getD (pile.length - 2) 0) (pile.getD (pile.length - 3) 0)
    · rw [red_stop h h1]; simp
    by_cases h3 : pile.length = 3
    · rw [red_half h3 h1]
      have := ih (pile.drop 1).length (by simp; omega) (pile.drop 1) rfl
      intro c hc
      rcases List.mem_cons.1 hc with rfl | hc
      · simp
      · exact this c hc
    · rw [red_whole (by omega) h1]
      have := ih (pile.take (pile.length - 3) ++ pile.drop (pile.length - 1)).length (by simp; omega) _ rfl
      intro c hc
      rcases List.mem_cons.1 hc with rfl | hc
      · simp
      · exact this c hc
theorem cyc_w : ∀ (pts pile : List Int), ∀ c ∈ cyc pts pile, 1 ≤ c.2 ∧ c.2 ≤ 2
  | [], pile, c, hc => by
    simp only [cyc, tailC, List.mem_map] at hc
    obtain ⟨_, _, rfl⟩ := hc
    simp
  | p :: r, pile, c, hc => by
    rcases List.mem_append.1 hc with hc | hc
    · exact red_w _ _ rfl c hc
    · exact cyc_w r _ c hc
theorem stepAt_bd {S : List (Int × Int)} (h : okSteps S = true) (z : Int) : ∀ n, n ≤ S.length → 0 ≤ stepAt S z n ∧ stepAt S z n ≤ 1000000
  | 0, _ => by simp [stepAt]
  | n + 1, hn => by
    rw [stepAt]
    split
    · have := List.all_eq_true.1 h n (by simp; omega)
      simp only [stepOk, withinB, Bool.and_eq_true, decide_eq_true_eq] at this
      exact this.1.2
    · exact stepAt_bd h z n (by omega)
theorem dmg_bd {S C : List (Int × Int)} (h : okSteps S = true) (hC : ∀ c ∈ C, 1 ≤ c.2 ∧ c.2 ≤ 2) : ∀ i, i ≤ C.length → 0 ≤ dmgTo S C i ∧ dmgTo S C i ≤ 2000000 * i
  | 0, _ => by simp [dmgTo]
  | i + 1, hi => by
    obtain ⟨h1, h2⟩ := dmg_bd h hC i (by omega)
    have hg : C.getD i (0, 0) = C[i] := by simp [List.getD, List.getElem?_eq_getElem (show i < C.length by omega)]
    have hc := hC _ (List.getElem_mem (show i < C.length by omega))
    obtain ⟨h3, h4⟩ := stepAt_bd h C[i].1 S.length (Nat.le_refl _)
    rw [dmgTo, hg]
    generalize stepAt S C[i].1 S.length = s at *
    generalize dmgTo S C i = a at *
    have hw : C[i].2 = 1 ∨ C[i].2 = 2 := by omega
    rcases hw with e | e <;> rw [e] <;> omega
noncomputable abbrev E41 : Env := { P := Tryd.prog, fn := tbl [(39, .pure CyclesS), (63, .pure withinS)], own := [], key := 4100, nt := 102 }
theorem b41 : PureBody E41 [] Tryd.f41 damS := by
  refine pb ?_
  rintro ⟨L, S⟩ ⟨p1, p2⟩
  simp only at p1 p2
  by_cases h0 : serE L = 0
  case neg =>
    have hd : damE L S = serE L := by rw [damE, if_neg h0]
    simp -dsimp [Tryd.f41, E41, h0, hd, prs]
    repeat' (first | omega | (simp -dsimp [E41, ri, cellp, ints, p1, p2, h0, hd, prs]) | (refine Also.intro ?_ fun _ => ?_) | (refine Hold.intro fun _ => ?_) | (refine And.intro ?_ ?_))
  by_cases h8 : 8 < S.length
  · have h8' : (8 : Int) < S.length := by omega
    have hd : damE L S = 1 := by rw [damE, if_pos h0, if_pos h8]
    simp -dsimp [Tryd.f41, E41, h0, hd, h8, h8', prs]
    repeat' (first | omega | (simp -dsimp [E41, ri, cellp, ints, p1, p2, h0, hd, h8, h8', prs]) | (refine Also.intro ?_ fun _ => ?_) | (refine Hold.intro fun _ => ?_) | (refine And.intro ?_ ?_))
  have h8' : ((8 : Int) < S.length) = False := eq_false (by omega)
  have hcl := cycles_len L
  have hcw := cyc_w (turn L) []
  rw [show cyc (turn L) [] = cycles L from rfl] at hcw
  have hL3 : L.length ≤ 300 := by
    unfold serE at h0
    split at h0
    · cases h0
    · omega
  simp -dsimp [Tryd.f41, E41, h0, h8', prs]
  repeat' (first | omega | (simp -dsimp [E41, ri, cellp, ints, p1, p2, h0, h8', prs]) | (refine Also.intro ?_ fun _ => ?_) | (refine Hold.intro fun _ => ?_) | (refine And.intro ?_ ?_))
  refine awp_loop [24, 25, 26, 27, 30, 31, 32, 33, 34, 35, 36, 37, 38, 39, 40, 41, 42, 43, 44, 45, 46, 47, 48, 49, 50, 51, 52, 53, 54, 55, 56, 57, 58, 59, 60, 61, 62, 63, 4, 5, 28, 29, 8] (fun k : { k : Nat // k ≤ S.length ∧ ∀ j, j < k → stepOk S j = true } => [(8, (true, .int .i64 (k.1 : Nat)))]) (fun _ => noH) (fun k => S.length - k.1) ⟨0, by omega, fun _ h => by omega⟩ ?_ (HLe.refl _) ?_
  · simp [okAll, okv]
  rintro ⟨k, hk, hall⟩
  simp only
  by_cases hk1 : k < S.length
  · have hki : (k : Int) < S.length := by omega
    have wk : IntKind.wrap .i64 ((k : Int) + 1) = (k + 1 : Nat) := wrap_id (by omega) (by omega)
    have e1 : S[k]? = some S[k] := List.getElem?_eq_getElem hk1
    have g1 : S.getD k (0, 0) = S[k] := by simp [List.getD, e1]
    have hso : stepOk S k = (withinB S[k].1 0 1000000 && withinB S[k].2 0 1000000 && !(decide (0 < k) && decide (S[k].1 ≤ (S.getD (k - 1) (0, 0)).1))) := by rw [stepOk, g1]
    have hbad : stepOk S k = false → damE L S = 1 := by
      intro hb
      have : okSteps S = false := by
        cases ho : okSteps S with
        | false => rfl
        | true => rw [List.all_eq_true.1 ho k (by simp; omega)] at hb; cases hb
      rw [damE, if_pos h0, if_neg h8, this]; rfl
    generalize hx : S[k] = x at *
    obtain ⟨x1, x2⟩ := x
    simp only at hso
    cases hw1 : withinB x1 0 1000000
    · have hd := hbad (by rw [hso, hw1]; rfl)
      simp -dsimp [hki]
      repeat' (first | omega | (simp -dsimp [E41, ri, cellp, ints, hki, hk1, e1, hx, p2, hw1, hd, cycV]) | (refine Also.intro ?_ fun _ => ?_) | (refine Hold.intro fun _ => ?_) | (refine And.intro ?_ ?_))
    cases hw2 : withinB x2 0 1000000
    · have hd := hbad (by rw [hso, hw1, hw2]; rfl)
      simp -dsimp [hki]
      repeat' (first | omega | (simp -dsimp [E41, ri, cellp, ints, hki, hk1, e1, hx, p2, hw1, hw2, hd, cycV]) | (refine Also.intro ?_ fun _ => ?_) | (refine Hold.intro fun _ => ?_) | (refine And.intro ?_ ?_))
    by_cases hk0 : k = 0
    · have hs1 : stepOk S k = true := by rw [hso, hw1, hw2, hk0]; rfl
      have hkp : ((0 : Int) < k) = False := eq_false (by omega)
      have hkd0 : decide (0 < k) = false := by simp; omega
      simp -dsimp [hki]
      repeat' (first | omega | (simp -dsimp [E41, ri, cellp, ints, hki, hk1, hkp, hkd0, e1, hx, p2, hw1, hw2, wk, cycV]) | (refine Also.intro ?_ fun _ => ?_) | (refine Hold.intro fun _ => ?_) | (refine And.intro ?_ ?_))
      refine ⟨k + 1, tle_chain rfl ?_, HLe.refl _, ⟨by omega, fun j hj => ?_⟩, by omega⟩
      · simp [okAll, okv]
      · by_cases hjk : j = k
        · subst hjk; exact hs1
        · exact hall j (by omega)
    have hkp : ((0 : Int) < k) = True := eq_true (by omega)
    have h2 : k - 1 < S.length := by omega
    have e2 : S[k - 1]? = some S[k - 1] := List.getElem?_eq_getElem h2
    have g2 : S.getD (k - 1) (0, 0) = S[k - 1] := by simp [List.getD, e2]
    have w1 : IntKind.wrap .i64 ((k : Int) - 1) = (k - 1 : Nat) := by rw [wrap_id (by omega) (by omega)]; omega
    rw [g2] at hso
    generalize hy : S[k - 1] = y at *
    obtain ⟨y1, y2⟩ := y
    simp only at hso
    have hkd : decide (0 < k) = true := by simp; omega
    by_cases hxy : x1 ≤ y1
    · have hd := hbad (by rw [hso, hw1, hw2, hkd, decide_eq_true hxy]; rfl)
      simp -dsimp [hki]
      repeat' (first | omega | (simp -dsimp [E41, ri, cellp, ints, hki, hk1, hkp, h2, e1, e2, w1, hx, hy, hxy, p2, hw1, hw2, hd, cycV]) | (refine Also.intro ?_ fun _ => ?_) | (refine Hold.intro fun _ => ?_) | (refine And.intro ?_ ?_))
    · have hs1 : stepOk S k = true := by rw [hso, hw1, hw2, hkd, decide_eq_false hxy]; rfl
      have hxy' : (x1 ≤ y1) = False := eq_false hxy
      simp -dsimp [hki]
      repeat' (first | omega | (simp -dsimp [E41, ri, cellp, ints, hki, hk1, hkp, h2, e1, e2, w1, hx, hy, hxy', p2, hw1, hw2, wk, cycV]) | (refine Also.intro ?_ fun _ => ?_) | (refine Hold.intro fun _ => ?_) | (refine And.intro ?_ ?_))
      refine ⟨k + 1, tle_chain rfl ?_, HLe.refl _, ⟨by omega, fun j hj => ?_⟩, by omega⟩
      · simp [okAll, okv]
      · by_cases hjk : j = k
        · subst hjk; exact hs1
        · exact hall j (by omega)
  have hke : k = S.length := by omega
  subst hke
  have hok : okSteps S = true := List.all_eq_true.2 fun j hj => hall j (by simpa using hj)
  have hd : damE L S = 0 := by rw [damE, if_pos h0, if_neg h8, if_pos hok]
  have hkn : ((S.length : Int) < S.length) = False := eq_false (by omega)
  simp -dsimp [hkn, hd]
  repeat' (first | omega | (simp -dsimp [E41, ri, cellp, ints, hkn, hd, p2]) | (refine Also.intro ?_ fun _ => ?_) | (refine Hold.intro fun _ => ?_) | (refine And.intro ?_ ?_))
  generalize cycles L = C at *
  refine awp_loop [64, 65, 66, 67, 11, 12, 70, 71, 72, 73, 76, 77, 78, 79, 80, 81, 82, 83, 84, 85, 86, 87, 88, 89, 90, 91, 74, 75, 92, 93, 94, 95, 96, 97, 98, 99, 100, 9, 68, 69, 10] (fun i : Fin (C.length + 1) => [(10, (true, .int .i64 (i.1 : Nat))), (9, (true, .int .i64 (dmgTo S C i.1)))]) (fun _ => noH) (fun i => C.length - i.1) ⟨0, by omega⟩ ?_ (HLe.refl _) ?_
  · simp [okAll, okv, dmgTo]
  rintro ⟨i, hi⟩
  simp only
  by_cases hi1 : i < C.length
  · have hii : (i : Int) < C.length := by omega
    have wi : IntKind.wrap .i64 ((i : Int) + 1) = (i + 1 : Nat) := wrap_id (by omega) (by omega)
    have c1 : C[i]? = some C[i] := List.getElem?_eq_getElem hi1
    have gc : C.getD i (0, 0) = C[i] := by simp [List.getD, c1]
    have hcb := hcw _ (List.getElem_mem hi1)
    obtain ⟨hs1, hs2⟩ := dmg_bd hok hcw i (by omega)
    have hT : dmgTo S C (i + 1) = dmgTo S C i + (C.getD i (0, 0)).2 * stepAt S (C.getD i (0, 0)).1 S.length := rfl
    rw [gc] at hT
    generalize hxc : C[i] = xc at *
    obtain ⟨z, w⟩ := xc
    simp only at hT hcb
    generalize dmgTo S C i = a at *
    simp -dsimp [hii]
    repeat' (first | omega | (simp -dsimp [E41, ri, cellp, ints, hii, hi1, hcl, c1, hxc]) | (refine Also.intro ?_ fun _ => ?_) | (refine Hold.intro fun _ => ?_) | (refine And.intro ?_ ?_))
    refine awp_loop [70, 71, 72, 73, 76, 77, 78, 79, 80, 81, 82, 83, 84, 85, 86, 87, 88, 89, 90, 91, 11, 74, 75, 12] (fun k : Fin (S.length + 1) => [(12, (true, .int .i64 (k.1 : Nat))), (11, (true, .int .i64 (stepAt S z k.1)))]) (fun _ => noH) (fun k => S.length - k.1) ⟨0, by omega⟩ ?_ (HLe.refl _) ?_
    · simp [okAll, okv, stepAt]
    rintro ⟨k, hk⟩
    simp only
    by_cases hk1 : k < S.length
    · have hki : (k : Int) < S.length := by omega
      have wk : IntKind.wrap .i64 ((k : Int) + 1) = (k + 1 : Nat) := wrap_id (by omega) (by omega)
      have e1 : S[k]? = some S[k] := List.getElem?_eq_getElem hk1
      have g1 : S.getD k (0, 0) = S[k] := by simp [List.getD, e1]
      have hU : stepAt S z (k + 1) = if (S.getD k (0, 0)).1 ≤ z then (S.getD k (0, 0)).2 else stepAt S z k := rfl
      rw [g1] at hU
      generalize hx : S[k] = x at *
      obtain ⟨x1, x2⟩ := x
      simp only at hU
      by_cases hxz : x1 ≤ z
      · rw [if_pos hxz] at hU
        simp -dsimp [hki]
        repeat' (first | omega | (simp -dsimp [E41, ri, cellp, ints, hki, hk1, hi1, c1, hxc, e1, hx, p2, wk, hxz, cycV]) | (refine Also.intro ?_ fun _ => ?_) | (refine Hold.intro fun _ => ?_) | (refine And.intro ?_ ?_))
        refine ⟨⟨k + 1, by omega⟩, tle_chain rfl ?_, HLe.refl _, by simp only; omega⟩
        simp [okAll, okv, hU]
      · rw [if_neg hxz] at hU
        have hxz' : (x1 ≤ z) = False := eq_false hxz
        simp -dsimp [hki]
        repeat' (first | omega | (simp -dsimp [E41, ri, cellp, ints, hki, hk1, hi1, c1, hxc, e1, hx, p2, wk, hxz', cycV]) | (refine Also.intro ?_ fun _ => ?_) | (refine Hold.intro fun _ => ?_) | (refine And.intro ?_ ?_))
        refine ⟨⟨k + 1, by omega⟩, tle_chain rfl ?_, HLe.refl _, by simp only; omega⟩
        simp [okAll, okv, hU]
    · have hke : k = S.length := by omega
      subst hke
      have hkn : ((S.length : Int) < S.length) = False := eq_false (by omega)
      obtain ⟨hb1, hb2⟩ := stepAt_bd hok z S.length (Nat.le_refl _)
      generalize stepAt S z S.length = d at *
      have hw : w = 1 ∨ w = 2 := by omega
      have ww : IntKind.wrap .i64 (w * d) = w * d := by rcases hw with e | e <;> rw [e] <;> exact wrap_id (by omega) (by omega)
      have wa : IntKind.wrap .i64 (a + w * d) = a + w * d := by rcases hw with e | e <;> rw [e] <;> exact wrap_id (by omega) (by omega)
      simp -dsimp [hkn]
      repeat' (first | omega | (simp -dsimp [E41, ri, cellp, ints, hkn, hi1, c1, hxc, p2, ww, wa, wi, cycV]) | (refine Also.intro ?_ fun _ => ?_) | (refine Hold.intro fun _ => ?_) | (refine And.intro ?_ ?_))
      refine ⟨⟨i + 1, by omega⟩, tle_kept (kept_upds rfl (kept_forget rfl (kept_upds rfl kept_base))) ?_, HLe.refl _, by simp only; omega⟩
      simp [okAll, okv, hT, ww, wa]
  have hie : i = C.length := by omega
  subst hie
  have hin : ((C.length : Int) < C.length) = False := eq_false (by omega)
  simp -dsimp [hin]
  repeat' (first | omega | (simp -dsimp [E41, ri, cellp, ints, hin, hcl]) | (refine Also.intro ?_ fun _ => ?_) | (refine Hold.intro fun _ => ?_) | (refine And.intro ?_ ?_))
theorem ok41 : FnOK Tryd.prog 41 (.pure damS) := pure_fn (E := E41) rfl (.cons ok39 (.cons ok63 .nil)) (ok := []) (fn := Tryd.f41) (by kernel_rfl) (by kernel_rfl) (by kernel_rfl) (by kernel_rfl) rfl (fun _ _ => by simp) b41
end Go.Sx
end
