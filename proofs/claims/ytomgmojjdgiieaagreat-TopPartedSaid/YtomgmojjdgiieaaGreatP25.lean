/- A part of a proof; no conditions. -/
import Derived.Test.YtomgmojjdgiieaaGreatP24
set_option linter.unusedSimpArgs false
set_option linter.unusedVariables false
set_option linter.unusedSectionVars false
section
/- Tables: the value at a point, stops, errors. No conditions. -/
set_option linter.unusedSimpArgs false
set_option linter.unusedSectionVars false
set_option maxRecDepth 100000
set_option maxHeartbeats 8000000
namespace Go.Sx.Tab
open Go.Proofs Go.Sx
attribute [local irreducible] HLe
attribute [local simp] hps_app
structure AtD where
  t : Tb
  x : Int
  y : Int
  deriving Inhabited
@[simp] def atE (d : AtD) : List V := [.agg (tabR d.t), .int .i64 d.x, .int .i64 d.y]
theorem atE_inj (a b : AtD) (h : atE a = atE b) : a = b := by
  obtain ⟨a1, a2, a3⟩ := a; obtain ⟨b1, b2, b3⟩ := b
  simp only [atE, List.cons.injEq, V.agg.injEq, V.int.injEq, true_and, and_true] at h
  rw [tabR_inj _ _ h.1, h.2.1, h.2.2]
theorem atE_dec (t : Tb) (x y : Int) : decC atE [.agg [.sl 1 (t.xs.map ri), .sl 1 (t.ys.map ri), .sl 1 (t.vs.map rwI)], .int .i64 x, .int .i64 y] = ⟨t, x, y⟩ := decC_eq atE_inj ⟨t, x, y⟩
def wa (a b : Int) : Int := IntKind.wrap .i64 (a + b)
def ws (a b : Int) : Int := IntKind.wrap .i64 (a - b)
def wm (a b : Int) : Int := IntKind.wrap .i64 (a * b)
def atW (X0 X1 Y0 Y1 p q r s x y : Int) : Int × Int :=
  (wa (wa (wa (wm (wm (ws X1 x) (ws Y1 y)) p) (wm (wm (ws x X0) (ws Y1 y)) q)) (wm (wm (ws X1 x) (ws y Y0)) r)) (wm (wm (ws x X0) (ws y Y0)) s), wm (wa (ws X1 x) (ws x X0)) (wa (ws Y1 y) (ws y Y0)))
def atV (t : Tb) (x y : Int) : Int × Int :=
  atW (t.xs.getD (celN t.xs x) 0) (t.xs.getD (celN t.xs x + 1) 0) (t.ys.getD (celN t.ys y) 0) (t.ys.getD (celN t.ys y + 1) 0)
    (t.v (celN t.xs x) (celN t.ys y)) (t.v (celN t.xs x + 1) (celN t.ys y)) (t.v (celN t.xs x) (celN t.ys y + 1)) (t.v (celN t.xs x + 1) (celN t.ys y + 1)) x y
noncomputable abbrev atS : PSpec := mkP atE (fun d => tbB d.t = true) fun d => .agg [.int .i64 (atV d.t d.x d.y).1, .int .i64 (atV d.t d.x d.y).2]
theorem tbB_facts {t : Tb} (h : tbB t = true) : axB t.xs = true ∧ axB t.ys = true ∧ t.vs.length = t.xs.length ∧ ∀ r ∈ t.vs, r.length = t.ys.length ∧ ∀ n ∈ r, -1000000 ≤ n ∧ n ≤ 1000000 := by
  simp only [tbB, Bool.and_eq_true, decide_eq_true_eq, Bool.not_eq_true', List.any_eq_false] at h
  obtain ⟨h1, h2, h3, h4⟩ := h
  refine ⟨h1, h2, h3, fun r hr => ?_⟩
  have := h4 r hr
  simp only [rowBad, Bool.or_eq_true, Bool.not_eq_true', decide_eq_false_iff_not, not_or, Decidable.not_not, List.any_eq_true, not_exists, not_and] at this
  refine ⟨this.1, fun n hn => ?_⟩
  have h5 := this.2 n hn
  have h6 : withinB n (-1000000) 1000000 = true := by simpa [far6] using h5
  simpa [withinB] using h6
theorem row_at {t : Tb} (h : tbB t = true) {i k : Nat} (hi : i < t.xs.length) (hk : k < t.ys.length) : ∃ r, t.vs[i]? = some r ∧ ∃ n, r[k]? = some n ∧ t.v i k = n := by
  obtain ⟨_, _, h3, h4⟩ := tbB_facts h
  obtain ⟨r, hr, hr'⟩ := get_ex (show i < t.vs.length by omega)
  have hrl := (h4 r (by rw [← hr']; exact List.getElem_mem _)).1
  obtain ⟨n, hn, hn'⟩ := get_ex (show k < r.length by omega)
  exact ⟨r, hr, n, hn, by simp [Tb.v, List.getD, hr, hn]⟩
noncomputable abbrev E108 : Env := { P := Tryz.prog, fn := tbl [(121, .pure celS)], own := [], key := 10800, nt := 113 }
theorem b108 : PureBody E108 [] Tryz.f108 atS := by
  refine pb ?_
  rintro ⟨t, x, y⟩ ht
  have ht : tbB t = true := ht
  obtain ⟨hax, hay, hvl, _⟩ := tbB_facts ht
  have lx := axB_len hax
  have ly := axB_len hay
  have hi := celN_lt lx.1 x
  have hk := celN_lt ly.1 y
  have hV : atV t x y = atW (t.xs.getD (celN t.xs x) 0) (t.xs.getD (celN t.xs x + 1) 0) (t.ys.getD (celN t.ys y) 0) (t.ys.getD (celN t.ys y + 1) 0)
    (t.v (celN t.xs x) (celN t.ys y)) (t.v (celN t.xs x + 1) (celN t.ys y)) (t.v (celN t.xs x) (celN t.ys y + 1)) (t.v (celN t.xs x + 1) (celN t.ys y + 1)) x y := rfl
  have hdx := bsE_dec t.xs x
  have hdy := bsE_dec t.ys y
  generalize hgi : celN t.xs x = i at *
  generalize hgk : celN t.ys y = k at *
  have hi0 : i < t.xs.length := by omega
  have hk0 : k < t.ys.length := by omega
  have hvi0 : i < t.vs.length := by omega
  have hvi1 : i + 1 < t.vs.length := by omega
  have wi : IntKind.wrap .i64 ((i : Int) + 1) = (i : Int) + 1 := wrap_id (by omega) (by omega)
  have wk : IntKind.wrap .i64 ((k : Int) + 1) = (k : Int) + 1 := wrap_id (by omega) (by omega)
  obtain ⟨X0, a1, a1'⟩ := get_ex hi0
  obtain ⟨X1, a2, a2'⟩ := get_ex hi
  obtain ⟨Y0, a3, a3'⟩ := get_ex hk0
  obtain ⟨Y1, a4, a4'⟩ := get_ex hk
  obtain ⟨r0, b1, p, c1, d1⟩ := row_at ht hi0 hk0
  obtain ⟨r1, b2, q, c2, d2⟩ := row_at ht hi hk0
  obtain ⟨r0', b3, r, c3, d3⟩ := row_at ht hi0 hk
  obtain ⟨r1', b4, s, c4, d4⟩ := row_at ht hi hk
  have : r0' = r0 := by rw [b1] at b3; exact (Option.some.inj b3).symm
  subst this
  have : r1' = r1 := by rw [b2] at b4; exact (Option.some.inj b4).symm
  subst this
  have b1' : t.vs[i] = r0' := (List.getElem?_eq_some_iff.1 b1).2
  have b2' : t.vs[i + 1] = r1' := (List.getElem?_eq_some_iff.1 b2).2
  have q1 := (List.getElem?_eq_some_iff.1 c1).1
  have q2 := (List.getElem?_eq_some_iff.1 c2).1
  have q3 := (List.getElem?_eq_some_iff.1 c3).1
  have q4 := (List.getElem?_eq_some_iff.1 c4).1
  have c1' : r0'[k] = p := (List.getElem?_eq_some_iff.1 c1).2
  have c2' : r1'[k] = q := (List.getElem?_eq_some_iff.1 c2).2
  have c3' : r0'[k + 1] = r := (List.getElem?_eq_some_iff.1 c3).2
  have c4' : r1'[k + 1] = s := (List.getElem?_eq_some_iff.1 c4).2
  rw [show t.xs.getD i 0 = X0 by simp [List.getD, a1], show t.xs.getD (i + 1) 0 = X1 by simp [List.getD, a2], show t.ys.getD k 0 = Y0 by simp [List.getD, a3], show t.ys.getD (k + 1) 0 = Y1 by simp [List.getD, a4], d1, d2, d3, d4] at hV
  simp -dsimp [Tryz.f108, E108, tabR]
  repeat' (first | omega | (simp -dsimp [E108, ri, cellp, ints, hax, hay, hdx, hdy, hgi, hgk, wi, wk, hi0, hk0, hi, hk, hvi0, hvi1, a1, a2, a3, a4, a1', a2', a3', a4', b1, b2, b1', b2', c1, c2, c3, c4, c1', c2', c3', c4', q1, q2, q3, q4, rwI, hV, atW, wa, ws, wm]) | (refine Also.intro ?_ fun _ => ?_) | (refine Hold.intro fun _ => ?_) | (refine And.intro ?_ ?_))
theorem ok108 : FnOK Tryz.prog 108 (.pure atS) := pure_fn (E := E108) rfl (.cons ok121 .nil) (ok := []) (fn := Tryz.f108) (by kernel_rfl) (by kernel_rfl) (by kernel_rfl) (by kernel_rfl) rfl (fun _ _ => by simp) b108
end Go.Sx.Tab
end
section
/- Tables: stops, errors, corners. No conditions. -/
set_option linter.unusedSimpArgs false
set_option linter.unusedSectionVars false
set_option maxRecDepth 100000
set_option maxHeartbeats 8000000
namespace Go.Sx.Tab
open Go.Proofs Go.Sx
attribute [local irreducible] HLe
attribute [local simp] hps_app
def stT (l : List Int) (s : Sp) (k : Nat) : List Int := s.lo :: (l.take k).filter fun x => decide (s.lo < x ∧ x < s.hi)
theorem stT_succ {l : List Int} {s : Sp} {k : Nat} {x : Int} (h : l[k]? = some x) : stT l s (k + 1) = stT l s k ++ if s.lo < x ∧ x < s.hi then [x] else [] := by
  unfold stT
  rw [List.take_add_one, h, List.filter_append]
  simp [List.filter_cons]
theorem stT_len (l : List Int) (s : Sp) (k : Nat) : (stT l s k).length ≤ k + 1 := by
  have := List.length_filter_le (fun x => decide (s.lo < x ∧ x < s.hi)) (l.take k)
  rw [List.length_take] at this
  simp only [stT, List.length_cons]; omega
theorem stT_all (l : List Int) (s : Sp) : stops l s = stT l s l.length ++ if s.lo < s.hi then [s.hi] else [] := by
  simp [stops, stT]
theorem stops_len (l : List Int) (s : Sp) : (stops l s).length ≤ l.length + 2 := by
  rw [stT_all, List.length_append]
  have := stT_len l s l.length
  split <;> simp <;> omega
noncomputable abbrev stoS : PSpec := mkP lsE (fun d => d.1.length ≤ 1000000) fun d => ints (stops d.1 d.2)
noncomputable abbrev E107 : Env := { P := Tryz.prog, fn := tbl [], own := [10], key := 10700, nt := 43 }
theorem b107 : PureBody E107 [] Tryz.f107 stoS := by
  refine pb ?_
  rintro ⟨l, s⟩ hl
  have hl : l.length ≤ 1000000 := hl
  simp -dsimp [Tryz.f107, E107, Sp.row]
  repeat' (first | omega | (simp -dsimp [E107, ri, cellp, ints, hl, Sp.row]) | (refine Also.intro ?_ fun _ => ?_) | (refine Hold.intro fun _ => ?_) | (refine And.intro ?_ ?_))
  refine awp_loop [14, 15, 16, 7, 17, 18, 19, 20, 21, 22, 23, 24, 25, 26, 27, 28, 29, 30, 5, 31, 13] (fun k : { k : Nat // k ≤ l.length } => [(13, (true, .int .i64 k.1)), (5, (true, .bsl 10710 0 (stT l s k.1).length))])
    (fun k => hps [(10710, { base := 0, blks := [{ z := 1, els := (stT l s k.1).map ri, ty := 3 }] }), (10703, { base := 0, blks := [{ z := 2, els := [[.int .i64 s.lo, .int .i64 s.hi]], ty := 31 }] })] noH) (fun k => l.length - k.1) ⟨0, by omega⟩ ?_ ?_ ?_
  · simp [okAll, okv, stT]
  · exact (by (try simp -dsimp only [hpush_noH, hpush_hps, hps_over]); refine hle_hps ?_; simp -dsimp [allK, stT, ri]; repeat' (first | (refine And.intro ?_ ?_) | (refine sLe.same ?_ ?_ <;> (simp; done)) | (refine sLe.clear ?_ ?_ <;> (first | (simp; done) | (simp; omega))) | (refine sLe.drop 1 ?_ ?_ ?_ <;> (simp; done))))
  rintro ⟨k, hk⟩
  dsimp only
  by_cases hk1 : k < l.length
  · have hki : ((k : Int) < l.length) = True := eq_true (by omega)
    have wk : IntKind.wrap .i64 ((k : Int) + 1) = (k + 1 : Nat) := wrap_id (by omega) (by omega)
    obtain ⟨x, hx, hx'⟩ := get_ex hk1
    have hT := stT_succ (s := s) hx
    have hTl := stT_len l s k
    have hTne : (stT l s k).map ri ≠ [] := by simp [stT]
    generalize stT l s k = T at *
    have hb8 : (T.length + 1) * 8 ≤ 140737488355328 := by omega
    by_cases h1 : s.lo < x
    · by_cases h2 : x < s.hi
      · rw [if_pos ⟨h1, h2⟩] at hT
        simp -dsimp [hki]
        repeat' (first | omega | (simp -dsimp [E107, ri, cellp, ints, hki, hk1, hx, hx', wk, h1, h2, hb8]) | (refine Also.intro ?_ fun _ => ?_) | (refine Hold.intro fun _ => ?_) | (refine And.intro ?_ ?_))
        refine ⟨k + 1, tle_chain rfl ?_, (by (try simp -dsimp only [hpush_noH, hpush_hps, hps_over]); refine hle_hps ?_; simp -dsimp [allK, hT, ri]; repeat' (first | (refine And.intro ?_ ?_) | (refine sLe.same ?_ ?_ <;> (simp; done)) | (refine sLe.clear ?_ ?_ <;> (first | (simp; done) | (simp; omega))) | (refine sLe.drop 1 ?_ ?_ ?_ <;> (simp; done)))), by omega, by omega⟩
        simp [okAll, okv, hT]
      · rw [if_neg (fun h => h2 h.2), List.append_nil] at hT
        have h2' : (x < s.hi) = False := eq_false h2
        simp -dsimp [hki]
        repeat' (first | omega | (simp -dsimp [E107, ri, cellp, ints, hki, hk1, hx, hx', wk, h1, h2', hb8]) | (refine Also.intro ?_ fun _ => ?_) | (refine Hold.intro fun _ => ?_) | (refine And.intro ?_ ?_))
        refine ⟨k + 1, tle_chain rfl ?_, (by (try simp -dsimp only [hpush_noH, hpush_hps, hps_over]); refine hle_hps ?_; simp -dsimp [allK, hT, ri]; repeat' (first | (refine And.intro ?_ ?_) | (refine sLe.same ?_ ?_ <;> (simp; done)) | (refine sLe.clear ?_ ?_ <;> (first | (simp; done) | (simp; omega))) | (refine sLe.drop 1 ?_ ?_ ?_ <;> (simp; done)))), by omega, by omega⟩
        simp [okAll, okv, hT]
    · rw [if_neg (fun h => h1 h.1), List.append_nil] at hT
      have h1' : (s.lo < x) = False := eq_false h1
      simp -dsimp [hki]
      repeat' (first | omega | (simp -dsimp [E107, ri, cellp, ints, hki, hk1, hx, hx', wk, h1', hb8]) | (refine Also.intro ?_ fun _ => ?_) | (refine Hold.intro fun _ => ?_) | (refine And.intro ?_ ?_))
      refine ⟨k + 1, tle_chain rfl ?_, (by (try simp -dsimp only [hpush_noH, hpush_hps, hps_over]); refine hle_hps ?_; simp -dsimp [allK, hT, ri]; repeat' (first | (refine And.intro ?_ ?_) | (refine sLe.same ?_ ?_ <;> (simp; done)) | (refine sLe.clear ?_ ?_ <;> (first | (simp; done) | (simp; omega))) | (refine sLe.drop 1 ?_ ?_ ?_ <;> (simp; done)))), by omega, by omega⟩
      simp [okAll, okv, hT]
  have hkn : ((k : Int) < l.length) = False := eq_false (by omega)
  have hke : k = l.length := by omega
  subst hke
  have hA := stT_all l s
  have hTl := stT_len l s l.length
  generalize stT l s l.length = T at *
  have hb8 : (T.length + 1) * 8 ≤ 140737488355328 := by omega
  by_cases h : s.lo < s.hi
  · rw [if_pos h] at hA
    simp -dsimp [hkn]
    repeat' (first | omega | (simp -dsimp [E107, ri, cellp, ints, hkn, h, hb8, hA, ri]) | (refine Also.intro ?_ fun _ => ?_) | (refine Hold.intro fun _ => ?_) | (refine And.intro ?_ ?_))
  · rw [if_neg h, List.append_nil] at hA
    have h' : (s.lo < s.hi) = False := eq_false h
    simp -dsimp [hkn]
    repeat' (first | omega | (simp -dsimp [E107, ri, cellp, ints, hkn, h', hA]) | (refine Also.intro ?_ fun _ => ?_) | (refine Hold.intro fun _ => ?_) | (refine And.intro ?_ ?_))
theorem ok107 : FnOK Tryz.prog 107 (.pure stoS) := pure_fn (E := E107) rfl LOK.nil (ok := []) (fn := Tryz.f107) (by kernel_rfl) (by kernel_rfl) (by kernel_rfl) (by kernel_rfl) rfl (fun _ _ => by simp) b107
structure BdD where
  t : Tb
  a : Sp
  b : Sp
  deriving Inhabited
@[simp] def bdE (d : BdD) : List V := [.agg (tabR d.t), .agg d.a.row, .agg d.b.row]
theorem bdE_inj (a b : BdD) (h : bdE a = bdE b) : a = b := by
  obtain ⟨a1, a2, a3⟩ := a; obtain ⟨b1, b2, b3⟩ := b
  simp only [bdE, List.cons.injEq, V.agg.injEq, and_true] at h
  rw [tabR_inj _ _ h.1, Sp.row_inj _ _ h.2.1, Sp.row_inj _ _ h.2.2]
theorem bdE_dec (t : Tb) (a b : Sp) : decC bdE [.agg [.sl 1 (t.xs.map ri), .sl 1 (t.ys.map ri), .sl 1 (t.vs.map rwI)], .agg [.int .i64 a.lo, .int .i64 a.hi], .agg [.int .i64 b.lo, .int .i64 b.hi]] = ⟨t, a, b⟩ := decC_eq bdE_inj ⟨t, a, b⟩
theorem slE_dec2 (a b : Sp) : decC slE [.sl 2 [[.int .i64 a.lo, .int .i64 a.hi], [.int .i64 b.lo, .int .i64 b.hi]]] = [a, b] := decC_eq slE_inj [a, b]
def bdErr (d : BdD) : Int := if tbB d.t = true then (if [d.a, d.b].any spN = true then 10 else if (lieB d.t.xs d.a && lieB d.t.ys d.b) = true then 0 else 1) else 11
noncomputable abbrev ckpS : PSpec := mkP bdE (fun d => TbP d.t) fun d => .int .i64 (bdErr d)
noncomputable abbrev E35 : Env := { P := Tryz.prog, fn := tbl [(65, .pure ctS), (66, .pure spdS), (67, .pure lieS)], own := [], key := 3500, nt := 33 }
theorem b35 : PureBody E35 [] Tryz.f35 ckpS := by
  refine pb ?_
  rintro ⟨t, a, b⟩ hP
  have hP : TbP t := hP
  cases h1 : tbB t
  · have hz : bdErr ⟨t, a, b⟩ = 11 := by simp [bdErr, h1]
    simp -dsimp [Tryz.f35, E35, tabR, Sp.row]
    repeat' (first | omega | (simp -dsimp [E35, ri, cellp, ints, hP, tbE_dec, h1, hz, Sp.row]) | (refine Also.intro ?_ fun _ => ?_) | (refine Hold.intro fun _ => ?_) | (refine And.intro ?_ ?_))
  obtain ⟨hax, hay, _⟩ := tbB_facts h1
  have lx := axB_len hax
  have ly := axB_len hay
  have lx0 : 0 < t.xs.length := by omega
  have ly0 : 0 < t.ys.length := by omega
  have lx1 : t.xs.length ≤ 1000000 := by omega
  have ly1 : t.ys.length ≤ 1000000 := by omega
  cases h2 : [a, b].any spN
  case true =>
    have hz : bdErr ⟨t, a, b⟩ = 10 := by simp [bdErr, h1, h2]
    simp -dsimp [Tryz.f35, E35, tabR, Sp.row]
    repeat' (first | omega | (simp -dsimp [E35, ri, cellp, ints, hP, tbE_dec, h1, h2, slE_dec2, hz, Sp.row]) | (refine Also.intro ?_ fun _ => ?_) | (refine Hold.intro fun _ => ?_) | (refine And.intro ?_ ?_))
  cases h3 : lieB t.xs a
  · have hz : bdErr ⟨t, a, b⟩ = 1 := by simp only [bdErr, h1, h2, h3]; rfl
    simp -dsimp [Tryz.f35, E35, tabR, Sp.row]
    repeat' (first | omega | (simp -dsimp [E35, ri, cellp, ints, hP, tbE_dec, h1, h2, h3, slE_dec2, lsE_dec, lx0, lx1, hz, Sp.row]) | (refine Also.intro ?_ fun _ => ?_) | (refine Hold.intro fun _ => ?_) | (refine And.intro ?_ ?_))
  cases h4 : lieB t.ys b
  · have hz : bdErr ⟨t, a, b⟩ = 1 := by simp only [bdErr, h1, h2, h3, h4]; rfl
    simp -dsimp [Tryz.f35, E35, tabR, Sp.row]
    repeat' (first | omega | (simp -dsimp [E35, ri, cellp, ints, hP, tbE_dec, h1, h2, h3, h4, slE_dec2, lsE_dec, lx0, lx1, ly0, ly1, hz, Sp.row]) | (refine Also.intro ?_ fun _ => ?_) | (refine Hold.intro fun _ => ?_) | (refine And.intro ?_ ?_))
  · have hz : bdErr ⟨t, a, b⟩ = 0 := by simp only [bdErr, h1, h2, h3, h4]; rfl
    simp -dsimp [Tryz.f35, E35, tabR, Sp.row]
    repeat' (first | omega | (simp -dsimp [E35, ri, cellp, ints, hP, tbE_dec, h1, h2, h3, h4, slE_dec2, lsE_dec, lx0, lx1, ly0, ly1, hz, Sp.row]) | (refine Also.intro ?_ fun _ => ?_) | (refine Hold.intro fun _ => ?_) | (refine And.intro ?_ ?_))
theorem ok35 : FnOK Tryz.prog 35 (.pure ckpS) := pure_fn (E := E35) rfl (.cons ok65 (.cons ok66 (.cons ok67 .nil))) (ok := []) (fn := Tryz.f35) (by kernel_rfl) (by kernel_rfl) (by kernel_rfl) (by kernel_rfl) rfl (fun _ _ => by simp) b35
end Go.Sx.Tab
end
section
/- Tables: corners, as they are yielded. No conditions. -/
set_option linter.unusedSimpArgs false
set_option linter.unusedSectionVars false
set_option maxRecDepth 100000
set_option maxHeartbeats 8000000
namespace Go.Sx.Tab
open Go.Proofs Go.Sx
attribute [local irreducible] HLe
def ptR (t : Tb) (p : Int × Int) : List V := [.agg [.int .i64 p.1, .int .i64 p.2, .int .i64 (atV t p.1 p.2).1, .int .i64 (atV t p.1 p.2).2]]
def pts (xs ys : List Int) : List (Int × Int) := xs.flatMap fun x => ys.map fun y => (x, y)
def cnE (d : BdD) : List V := [.ip 3 [tabR d.t] 0 0, .ip 2 [d.a.row] 0 0, .ip 2 [d.b.row] 0 0]
theorem cnE_inj (a b : BdD) (h : cnE a = cnE b) : a = b := by
  obtain ⟨a1, a2, a3⟩ := a; obtain ⟨b1, b2, b3⟩ := b
  simp only [cnE, List.cons.injEq, V.ip.injEq, true_and, and_true] at h
  rw [tabR_inj _ _ h.1, Sp.row_inj _ _ h.2.1, Sp.row_inj _ _ h.2.2]
noncomputable abbrev cnsS : PSpec := mkP bdE (fun _ => True) fun d => .fn 106 (cnE d)
noncomputable abbrev E68 : Env := { P := Tryz.prog, fn := tbl [], own := [], key := 6800, nt := 8, frz := [(1, [3, 50003, 4, 50004, 5, 50005])] }
theorem b68 : PureBody E68 [] Tryz.f68 cnsS := by
  refine pb ?_
  rintro ⟨t, a, b⟩ _
  simp -dsimp [Tryz.f68, E68, tabR, Sp.row, cnE]
  repeat' (first | omega | (simp -dsimp [E68, ri, cellp, ints, tabR, Sp.row, cnE]) | (refine Also.intro ?_ fun _ => ?_) | (refine Hold.intro fun _ => ?_) | (refine And.intro ?_ ?_))
theorem ok68 : FnOK Tryz.prog 68 (.pure cnsS) := pure_fn (E := E68) rfl LOK.nil (ok := []) (fn := Tryz.f68) (by kernel_rfl) (by kernel_rfl) (by kernel_rfl) (by kernel_rfl) rfl (fun _ _ => by simp) b68
def cnL (d : BdD) : List (Int × Int) := pts (stops d.t.xs d.a) (stops d.t.ys d.b)
open Classical in
noncomputable def cnDec (caps : List V) (_ : Hp) : Prop × List (List V) := if x : ∃ d, caps = cnE d then (tbB x.choose.t = true, (cnL x.choose).map (ptR x.choose.t)) else (False, [])
theorem cnDec_at (d : BdD) (h : Hp) : cnDec (cnE d) h = (tbB d.t = true, (cnL d).map (ptR d.t)) := by
  have hx : ∃ d', cnE d = cnE d' := ⟨d, rfl⟩
  have e : hx.choose = d := (cnE_inj _ _ hx.choose_spec).symm
  simp only [cnDec, dif_pos hx, e]
theorem cnDec_inv {caps : List V} {h : Hp} (hc : (cnDec caps h).1) : ∃ d, caps = cnE d ∧ tbB d.t = true ∧ (cnDec caps h).2 = (cnL d).map (ptR d.t) := by
  simp only [cnDec] at hc ⊢
  by_cases hx : ∃ d, caps = cnE d
  · rw [dif_pos hx] at hc ⊢
    exact ⟨_, hx.choose_spec, hc, rfl⟩
  · rw [dif_neg hx] at hc; exact hc.elim
noncomputable def cnI : Nat → HSpec → HSpec := itS [] [] cnDec
theorem cnI_inv {l : Nat} {Y : HSpec} {args : List V} {h : Hp} (hc : ((cnI l Y).go args h).c) : ∃ d, args = .yld l :: cnE d ∧ Loc Y [] [] ∧ tbB d.t = true ∧ (feed Y ((cnL d).map (ptR d.t)) h).1 ∧
    ((cnI l Y).go args h).v = .tup [] ∧ ((cnI l Y).go args h).h = (feed Y ((cnL d).map (ptR d.t)) h).2 := by
  obtain ⟨caps, rfl, h2, h3, h4, h5, h6, h7⟩ := its_inv hc
  obtain ⟨d, rfl, k1, k2⟩ := cnDec_inv h4
  rw [k2] at h5 h7
  exact ⟨d, rfl, h2, k1, h5, h6, by show ((itS [] [] cnDec l Y).go (.yld l :: cnE d) h).h = _; rw [h7]; rfl⟩
structure CnO (Y : HSpec) (FH : Hp) (t : Tb) (sx sy : List Int) where
  i : Nat
  H : Hp
  hi : i ≤ sx.length
  hf : (feed Y ((pts (sx.drop i) sy).map (ptR t)) H).1 ∧ (feed Y ((pts (sx.drop i) sy).map (ptR t)) H).2 = FH
structure CnN (Y : HSpec) (FH : Hp) (t : Tb) (sx sy : List Int) (i : Nat) (x : Int) where
  k : Nat
  H : Hp
  hk : k ≤ sy.length
  hf : (feed Y ((((sy.drop k).map fun y => (x, y)) ++ pts (sx.drop (i + 1)) sy).map (ptR t)) H).1 ∧ (feed Y ((((sy.drop k).map fun y => (x, y)) ++ pts (sx.drop (i + 1)) sy).map (ptR t)) H).2 = FH
theorem kpCn : ∀ f S, tbl [(107, .pure stoS), (108, .pure atS)] f = some (.heap S) → ∀ args h, (S.go args h).c → (h YS).blks = [] → (S.go args h).h YS = h YS := by
  intro f S hf
  simp only [tbl_cons, tbl_nil] at hf
  split at hf
  · cases hf
  · split at hf
    · cases hf
    · cases hf
noncomputable abbrev E106 : Env := { P := Tryz.prog, fn := tbl [(107, .pure stoS), (108, .pure atS)], own := [], key := 10600, nt := 39 }
theorem b106 : IterBody E106 [] Tryz.f106 cnI := by
  intro l Y args h hc hyb hyf
  obtain ⟨⟨t, a, b⟩, rfl, hloc, ht, hfd, hv, hh⟩ := cnI_inv hc
  simp only at ht hfd hv hh
  rw [hv, hh]
  clear hv hh hc
  obtain ⟨hax, hay, _⟩ := tbB_facts ht
  have lx := axB_len hax
  have ly := axB_len hay
  have lx1 : t.xs.length ≤ 1000000 := by omega
  have ly1 : t.ys.length ≤ 1000000 := by omega
  have sxl := stops_len t.xs a
  have syl := stops_len t.ys b
  have hL : cnL ⟨t, a, b⟩ = pts (stops t.xs a) (stops t.ys b) := rfl
  rw [hL] at hfd ⊢
  clear hL
  obtain ⟨FH, hFH⟩ : ∃ FH, (feed Y ((pts (stops t.xs a) (stops t.ys b)).map (ptR t)) h).2 = FH := ⟨_, rfl⟩
  rw [hFH]
  simp -dsimp [Tryz.f106, E106, cnE, tabR, Sp.row]
  repeat' (first | omega | (simp -dsimp [E106, ri, cellp, ints, cnE, tabR, Sp.row, lsE_dec, lx1, ly1]) | (refine Also.intro ?_ fun _ => ?_) | (refine Hold.intro fun _ => ?_) | (refine And.intro ?_ ?_))
  generalize hsx : stops t.xs a = sx at *
  generalize hsy : stops t.ys b = sy at *
  refine awp_loop [15, 16, 17, 6, 18, 19, 20, 21, 22, 23, 24, 25, 26, 8, 27, 28, 29, 30, 31, 32, 33, 34, 35, 36, 37, 38, 14] (fun q : CnO Y FH t sx sy => [(14, (true, .int .i64 (q.i : Nat)))]) (fun q => q.H) (fun q => sx.length - q.i) { i := 0, H := h, hi := by omega, hf := ⟨by rw [List.drop_zero]; exact hfd, by rw [List.drop_zero]; exact hFH⟩ } ?_ (HLe.refl _) ?_
  · simp [okAll, okv]
  rintro ⟨i, H, hi, hf1, hf2⟩
  dsimp only
  by_cases hi1 : i < sx.length
  case neg =>
    have hin : ((i : Int) < sx.length) = False := eq_false (by omega)
    have hd : sx.drop i = [] := List.drop_eq_nil_of_le (by omega)
    rw [hd] at hf2
    have hfe : H = FH := hf2
    subst hfe
    simp -dsimp [hin]
    repeat' (first | omega | (simp -dsimp [E106, ri, cellp, ints, hin]) | (refine Also.intro ?_ fun _ => ?_) | (refine Hold.intro fun _ => ?_) | (refine And.intro ?_ ?_))
    exact HLe.refl _
  have hii : ((i : Int) < sx.length) = True := eq_true (by omega)
  have wi : IntKind.wrap .i64 ((i : Int) + 1) = (i + 1 : Nat) := wrap_id (by omega) (by omega)
  obtain ⟨x, hx, hx'⟩ := get_ex hi1
  have hdx : sx.drop i = x :: sx.drop (i + 1) := by rw [List.drop_eq_getElem_cons hi1, hx']
  have hp0 : pts (sx.drop i) sy = ((sy.drop 0).map fun y => (x, y)) ++ pts (sx.drop (i + 1)) sy := by rw [hdx, List.drop_zero]; rfl
  rw [hp0] at hf1 hf2
  simp -dsimp [hii]
  repeat' (first | omega | (simp -dsimp [E106, ri, cellp, ints, hii, hi1, hx, hx', lsE_dec, lx1, ly1, hsy, tabR, Sp.row]) | (refine Also.intro ?_ fun _ => ?_) | (refine Hold.intro fun _ => ?_) | (refine And.intro ?_ ?_))
  refine awp_loop [24, 25, 26, 8, 27, 28, 29, 30, 31, 32, 33, 34, 35, 36, 37, 23] (fun q : CnN Y FH t sx sy i x => [(23, (true, .int .i64 (q.k : Nat)))]) (fun q => q.H) (fun q => sy.length - q.k) { k := 0, H := H, hk := by omega, hf := ⟨hf1, hf2⟩ } ?_ (HLe.refl _) ?_
  · simp [okAll, okv]
  rintro ⟨k, H', hk, hg1, hg2⟩
  dsimp only
  by_cases hk1 : k < sy.length
  case neg =>
    have hkn : ((k : Int) < sy.length) = False := eq_false (by omega)
    have hd : sy.drop k = [] := List.drop_eq_nil_of_le (by omega)
    rw [hd, List.map_nil, List.nil_append] at hg1 hg2
    simp -dsimp [hkn]
    repeat' (first | omega | (simp -dsimp [E106, ri, cellp, ints, hkn, wi]) | (refine Also.intro ?_ fun _ => ?_) | (refine Hold.intro fun _ => ?_) | (refine And.intro ?_ ?_))
    refine ⟨{ i := i + 1, H := H', hi := by omega, hf := ⟨hg1, hg2⟩ }, tle_kept (kept_upds rfl (kept_forget rfl (kept_upds rfl kept_base))) ?_, HLe.refl _, by simp only; omega⟩
    simp [okAll, okv, wi]
  have hki : ((k : Int) < sy.length) = True := eq_true (by omega)
  have wk : IntKind.wrap .i64 ((k : Int) + 1) = (k + 1 : Nat) := wrap_id (by omega) (by omega)
  obtain ⟨y, hy, hy'⟩ := get_ex hk1
  have hdy : sy.drop k = y :: sy.drop (k + 1) := by rw [List.drop_eq_getElem_cons hk1, hy']
  rw [hdy, List.map_cons, List.cons_append, List.map_cons] at hg1 hg2
  obtain ⟨hyc, bb, hyv, htr, hfa⟩ := feed_step hg1
  obtain ⟨H2, hH2⟩ : ∃ H2, (Y.go (ptR t (x, y)) H').h = H2 := ⟨_, rfl⟩
  rw [hH2] at hfa htr
  have hgo : Y.go (ptR t (x, y)) H' = ⟨True, .bool bb, H2⟩ := by
    have := hloc.go hyc hyv []
    rw [hH2] at this; exact this
  simp only [ptR] at hgo
  cases bb with
  | false =>
    rw [hfa rfl] at hg2
    subst hg2
    simp -dsimp [hki]
    repeat' (first | omega | (simp -dsimp [E106, ri, cellp, ints, hki, hk1, hy, hy', ht, atE_dec, hgo, tabR]) | (refine Also.intro ?_ fun _ => ?_) | (refine Hold.intro fun _ => ?_) | (refine And.intro ?_ ?_))
    exact HLe.refl _
  | true =>
    obtain ⟨hf3, hf4⟩ := htr rfl
    rw [hf4] at hg2
    simp -dsimp [hki]
    repeat' (first | omega | (simp -dsimp [E106, ri, cellp, ints, hki, hk1, hy, hy', ht, atE_dec, hgo, tabR, wk]) | (refine Also.intro ?_ fun _ => ?_) | (refine Hold.intro fun _ => ?_) | (refine And.intro ?_ ?_))
    refine ⟨{ k := k + 1, H := H2, hk := by omega, hf := ⟨hf3, hg2⟩ }, tle_chain rfl ?_, HLe.refl _, by simp only; omega⟩
    simp [okAll, okv, wk]
theorem ok106 : FnOK Tryz.prog 106 (.iter cnI) := iter_fn (E := E106) rfl (.cons ok107 (.cons ok108 .nil)) (ok := []) (fn := Tryz.f106) (by kernel_rfl) (by kernel_rfl) (by kernel_rfl) (fun _ _ => by kernel_rfl) rfl (fun l Y args h hc => by obtain ⟨d, rfl, _⟩ := cnI_inv hc; simp [cnE]) kpCn b106
end Go.Sx.Tab
end
