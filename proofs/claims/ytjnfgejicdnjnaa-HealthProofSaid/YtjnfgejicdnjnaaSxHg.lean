/- A part of a proof; no conditions. -/
import Derived.Test.YtjnfgejicdnjnaaSxHf
set_option linter.unusedSimpArgs false
set_option linter.unusedVariables false
set_option maxRecDepth 100000
namespace Go.Sx
open Go.Proofs

/-! chance, Chance, the reference's orders -/
def chZ (l : List Int) : Int × Int := (nextZ (trendZ l) l.length (List.replicate l.length 0) 0 l 0 (0, 0)).2
theorem facN_le : ∀ {n m : Nat}, n ≤ m → facN n ≤ facN m := by
  intro n m h
  induction m with
  | zero => have : n = 0 := by omega
            subst this; exact Nat.le_refl _
  | succ m ih =>
    by_cases e : n = m + 1
    · subst e; exact Nat.le_refl _
    · have := ih (by omega)
      have h1 := facN_pos m
      simp only [facN, Nat.add_mul, Nat.one_mul]; omega
theorem chZ_bound (l : List Int) : 0 ≤ (chZ l).1 ∧ (chZ l).1 ≤ facN l.length ∧ (chZ l).2 = facN l.length := by
  have := next_inv (trendZ l) l.length (List.replicate l.length 0) 0 l 0 (0, 0) rfl
  simp only [chZ]
  simp only at this
  omega
theorem next_from {want : Int} {h : Hp} (M n j : Nat) (left rows : List Int) (so num den : Int) (hn : rows.length = n) (h1 : hget h 5212 0 = some (bO rows)) (h2 : hget h 5204 0 = some (bF num den)) (h3 : hget h 5203 0 = some (bW want)) (h4 : hget h 5205 0 = some bN) :
    (nextS M).go [.osl 5212 0 n 0 j n, .sl 1 (left.map ri), .int .i64 so, .bptr 5204 0 1 0 0, .bptr 5203 0 1 0 0, .bptr 5205 0 1 0 0] h =
      ⟨nextPre M ⟨rows, j, left, so, num, den, want⟩, .tup [], cst h (nextZ want left.length rows j left so (num, den)).1 (nextZ want left.length rows j left so (num, den)).2.1 (nextZ want left.length rows j left so (num, den)).2.2⟩ := by
  have := next_at (want := want) (h := h) ⟨⟨_, h1⟩, ⟨_, h2⟩, h3, h4⟩ M n j (left.map ri) left rows so num den hn rfl
  rwa [cst_self h1 h2] at this
abbrev heap52 (l : List Int) : Hp := hps
        [(5212, { base := 0, blks := [{ z := 1, els := List.replicate l.length [V.int IntKind.i64 0], ty := 3 }] }),
          (5205,
            { base := 0,
              blks :=
                [{ z := 1, els := [[V.fn 84 [V.bptr 5204 0 1 0 0, V.bptr 5203 0 1 0 0, V.bptr 5205 0 1 0 0]]],
                    ty := 111, cl := false }] }),
          (5204, { base := 0, blks := [{ z := 2, els := [[V.int IntKind.i64 0, V.int IntKind.i64 0]], ty := 74 }] }),
          (5203, { base := 0, blks := [{ z := 1, els := [[V.int IntKind.i64 (trendZ l)]], ty := 3 }] }),
          (5202, { base := 0, blks := [{ z := 2, els := [[V.int IntKind.i64 0, V.int IntKind.i64 0]], ty := 74 }] })]
        noH
abbrev chanceS : PSpec := { dom := List Int, enc := fun d => [ints d], dec := fun l => (l.getD 0 .top).toInts, pre := fun d => 1 ≤ d.length ∧ d.length ≤ 12, res := fun d => .agg [.int .i64 (chZ d).1, .int .i64 (chZ d).2] }
abbrev alts52 : Alts := [(5, ([], [[0, 1, 2, 3, 4, 5], [1, 2, 3, 0, 4, 5]]))]
noncomputable abbrev E52 : Env := { P := Try.prog, fn := tbl [(49, .pure trendS), (84, .heap (nextS 13))], own := [12], key := 5200, nt := 16 }
theorem b52 : PureBody E52 alts52 Try.f52 chanceS := by
  refine pb ?_
  rintro l ⟨hl1, hl2⟩
  have hf : facN l.length ≤ facN 12 := facN_le hl2
  simp only [show facN 12 = 479001600 by decide] at hf
  have nx := next_from (h := heap52 l) (want := trendZ l) 13 l.length 0 l (List.replicate l.length 0) 0 0 0 (by simp)
    (by simp [heap52, hget_hps, hps_cons, bO, ri]) (by simp [heap52, hget_hps, hps_cons, bF]) (by simp [heap52, hget_hps, hps_cons, bW]) (by simp [heap52, hget_hps, hps_cons, bN])
  simp only [heap52] at nx
  have e1 : (nextZ (trendZ l) l.length (List.replicate l.length 0) 0 l 0 (0, 0)).2 = chZ l := rfl
  rw [e1] at nx
  simp -dsimp [Try.f52, E52, ints]
  repeat' (first | omega | (simp -dsimp [E52, ri, cellp, ints, hl1, hl2, nx, nextPre, cst, bF, bO]) | (refine Also.intro ?_ fun _ => ?_) | (refine Hold.intro fun _ => ?_) | (refine And.intro ?_ ?_))
theorem ok52 : FnOK Try.prog 52 (.pure chanceS) := pure_fn (E := E52) rfl (.cons ok49 (.cons (ok84 13) .nil)) (ok := alts52) (fn := Try.f52) (by kernel_rfl) (by kernel_rfl) (by kernel_rfl) (by kernel_rfl) rfl (fun _ _ => by simp) b52

abbrev ChanceS : PSpec := { dom := List Int, enc := fun d => [ints d], dec := fun l => (l.getD 0 .top).toInts, pre := fun d => d.length ≤ 9223372036854775807, res := fun d => if validB d then .tup [.int .i64 (lowN (chZ d).1 (chZ d).2), .int .i64 (lowD (chZ d).1 (chZ d).2), .int .i64 0] else .tup [.int .i64 0, .int .i64 0, .int .i64 1] }
noncomputable abbrev E19 : Env := { P := Try.prog, fn := tbl [(48, .pure validS), (52, .pure chanceS), (53, .pure fracS)], own := [], key := 1900, nt := 16 }
theorem b19 : PureBody E19 [] Try.f19 ChanceS := by
  refine pb ?_
  rintro l hl
  by_cases hv : validB l = true
  · obtain ⟨v1, v2⟩ := valid_len hv
    obtain ⟨b1, b2, b3⟩ := chZ_bound l
    have f0 : facN l.length ≤ facN 12 := facN_le (by omega)
    have f1 := facN_pos l.length
    simp only [show facN 12 = 479001600 by decide] at f0
    simp -dsimp [Try.f19, E19, ints]
    repeat' (first | omega | (simp -dsimp [E19, ri, cellp, ints, hl, lowPre, hv]) | (refine Also.intro ?_ fun _ => ?_) | (refine Hold.intro fun _ => ?_) | (refine And.intro ?_ ?_))
  · simp -dsimp [Try.f19, E19, ints]
    repeat' (first | omega | (simp -dsimp [E19, ri, cellp, ints, hl, lowPre, hv]) | (refine Also.intro ?_ fun _ => ?_) | (refine Hold.intro fun _ => ?_) | (refine And.intro ?_ ?_))
theorem ok19 : FnOK Try.prog 19 (.pure ChanceS) := pure_fn (E := E19) rfl (.cons ok48 (.cons ok52 (.cons ok53 .nil))) (ok := []) (fn := Try.f19) (by kernel_rfl) (by kernel_rfl) (by kernel_rfl) (by kernel_rfl) rfl (fun _ _ => by simp) b19

/-! orders -/
def ordZ (least : Int) : Nat → List Int → List Int → Int × Int
  | 0, ch, _ => (if trendZ ch ≥ least then 1 else 0, 1)
  | m + 1, ch, left => (List.range left.length).foldl (fun (s : Int × Int) i =>
      (s.1 + (ordZ least m (ch ++ [left.getD i 0]) (left.take i ++ left.drop (i + 1))).1, s.2 + (ordZ least m (ch ++ [left.getD i 0]) (left.take i ++ left.drop (i + 1))).2)) (0, 0)
def ordTo (least : Int) (m : Nat) (ch left : List Int) (k : Nat) : Int × Int := (List.range k).foldl (fun (s : Int × Int) i =>
      (s.1 + (ordZ least m (ch ++ [left.getD i 0]) (left.take i ++ left.drop (i + 1))).1, s.2 + (ordZ least m (ch ++ [left.getD i 0]) (left.take i ++ left.drop (i + 1))).2)) (0, 0)
theorem ordTo_succ (least : Int) (m : Nat) (ch left : List Int) (k : Nat) : ordTo least m ch left (k + 1) =
    ((ordTo least m ch left k).1 + (ordZ least m (ch ++ [left.getD k 0]) (left.take k ++ left.drop (k + 1))).1, (ordTo least m ch left k).2 + (ordZ least m (ch ++ [left.getD k 0]) (left.take k ++ left.drop (k + 1))).2) := by
  simp [ordTo, List.range_succ, List.foldl_append]
theorem ordZ_succ (least : Int) (m : Nat) (ch left : List Int) : ordZ least (m + 1) ch left = ordTo least m ch left left.length := rfl
theorem ord_inv (least : Int) : ∀ (m : Nat) (ch left : List Int), left.length = m → (ordZ least m ch left).2 = facN m ∧ 0 ≤ (ordZ least m ch left).1 ∧ (ordZ least m ch left).1 ≤ facN m
  | 0, ch, left, _ => by
    simp only [ordZ, facN]
    refine ⟨by omega, ?_, ?_⟩ <;> split <;> omega
  | m + 1, ch, left, hl => by
    have key : ∀ k, k ≤ left.length → (ordTo least m ch left k).2 = k * facN m ∧ 0 ≤ (ordTo least m ch left k).1 ∧ (ordTo least m ch left k).1 ≤ k * facN m := by
      intro k
      induction k with
      | zero => intro _; simp [ordTo]
      | succ k ih =>
        intro hk
        obtain ⟨h1, h2, h3⟩ := ih (by omega)
        obtain ⟨g1, g2, g3⟩ := ord_inv least m (ch ++ [left.getD k 0]) (left.take k ++ left.drop (k + 1)) (by simp; omega)
        have e : ((k + 1 : Nat) : Int) * facN m = k * facN m + facN m := by rw [Int.natCast_add, Int.add_mul]; simp
        rw [ordTo_succ]
        simp only
        omega
    have := key left.length (Nat.le_refl _)
    rw [ordZ_succ]
    rw [hl] at this ⊢
    have e : ((m + 1 : Nat) : Int) * facN m = facN (m + 1) := by simp [facN]
    rw [e] at this
    exact this
theorem ordTo_inv (least : Int) (m : Nat) (ch left : List Int) (hl : left.length = m + 1) (k : Nat) (hk : k ≤ left.length) : 0 ≤ (ordTo least m ch left k).1 ∧ (ordTo least m ch left k).1 ≤ k * facN m ∧ (ordTo least m ch left k).2 = k * facN m := by
  induction k with
  | zero => simp [ordTo]
  | succ k ih =>
    obtain ⟨h1, h2, h3⟩ := ih (by omega)
    obtain ⟨g1, g2, g3⟩ := ord_inv least m (ch ++ [left.getD k 0]) (left.take k ++ left.drop (k + 1)) (by simp; omega)
    have e : ((k + 1 : Nat) : Int) * facN m = k * facN m + facN m := by rw [Int.natCast_add, Int.add_mul]; simp
    rw [ordTo_succ]
    simp only
    omega
abbrev ordS (M : Nat) : PSpec := { dom := List Int × List Int × Int, enc := fun d => [ints d.1, ints d.2.1, .int .i64 d.2.2], dec := fun l => ((l.getD 0 .top).toInts, (l.getD 1 .top).toInts, (l.getD 2 .top).toInt), pre := fun d => d.2.1.length < M ∧ d.1.length + d.2.1.length ≤ 12, res := fun d => .tup [.int .i64 (ordZ d.2.2 d.2.1.length d.1 d.2.1).1, .int .i64 (ordZ d.2.2 d.2.1.length d.1 d.2.1).2] }
noncomputable abbrev E55 (M : Nat) : Env := { P := Try.prog, fn := tbl [(51, .pure trendS), (55, .pure (ordS M))], own := [], key := 5500, nt := 58 }
abbrev alts55 : Alts := [(9, ([2, 7], [[0, 1, 2, 3, 4, 5, 6, 7, 8, 9]])), (10, ([4, 5], [[0, 1, 2, 3, 4, 5, 6, 7, 8, 9, 10, 11, 12, 13, 14, 15]]))]
theorem dr55 (M : Nat) : drawsOk (E55 M) alts55 (Try.f55.body.getD .skip) = true := by kernel_rfl
theorem b55 (M : Nat) : PureBody (E55 M) alts55 Try.f55 (ordS (M + 1)) := by
  refine pb ?_
  rintro ⟨ch, left, least⟩ ⟨hl1, hl2⟩
  simp only at hl1 hl2
  by_cases h0 : left = []
  · subst h0
    by_cases hz : least ≤ trendZ ch
    · simp -dsimp [Try.f55, ints, ordZ, hz]
      repeat' (first | omega | (simp -dsimp [E55, ri, ints, ordZ, hz]) | (refine Also.intro ?_ fun _ => ?_) | (refine Hold.intro fun _ => ?_) | (refine And.intro ?_ ?_))
    · simp -dsimp [Try.f55, ints, ordZ, hz]
      repeat' (first | omega | (simp -dsimp [E55, ri, ints, ordZ, hz]) | (refine Also.intro ?_ fun _ => ?_) | (refine Hold.intro fun _ => ?_) | (refine And.intro ?_ ?_))
  have hl0 : left.length ≠ 0 := by simpa using h0
  obtain ⟨m, hm⟩ : ∃ m, left.length = m + 1 := ⟨left.length - 1, by omega⟩
  have htk : ∀ i, List.take (left.length - i) (List.drop i (List.map ri left)) = List.drop i (List.map ri left) := fun i => List.take_of_length_le (by simp)
  simp -dsimp [Try.f55, ints, h0]
  refine awp_loop [21, 22, 23, 24, 27, 28, 29, 30, 31, 32, 33, 34, 35, 11, 37, 38, 39, 40, 41, 42, 43, 44, 45, 46, 47, 36, 48, 49, 12, 13, 50, 51, 52, 8, 53, 54, 55, 9, 25, 26, 10]
    (fun k : Fin (left.length + 1) => [(10, (true, .int .i64 k.1)), (8, (true, .int .i64 (ordTo least m ch left k.1).1)), (9, (true, .int .i64 (ordTo least m ch left k.1).2))])
    (fun k => hps [(5530, { base := k.1, blks := [] }), (5538, { base := k.1, blks := [] })] noH) (fun k => left.length - k.1) ⟨0, by omega⟩ ?_ (HLe.forget rfl (by intro s; simp [hnext, hps])) ?_
  · simp [okAll, okv, ordTo]
  rintro ⟨k, hk⟩
  by_cases hk1 : k < left.length
  · have e1 : IntKind.wrap .i64 ((k : Int) + 1) = (k + 1 : Nat) := wrap_id (by omega) (by omega)
    have e2 : k ≤ left.length := by omega
    have e3 : k + 1 ≤ left.length := hk1
    have hs := ordTo_succ least m ch left k
    obtain ⟨n1, n2, n3⟩ := ordTo_inv least m ch left hm k e2
    have eG : left.getD k 0 = left[k] := by simp [List.getD, List.getElem?_eq_getElem hk1]
    obtain ⟨g1, g2, g3⟩ := ord_inv least m (ch ++ [left.getD k 0]) (left.take k ++ left.drop (k + 1)) (by simp; omega)
    have f0 : facN m ≤ facN 12 := facN_le (by omega)
    simp only [show facN 12 = 479001600 by decide] at f0
    have f1 : (k : Int) * facN m ≤ 12 * 479001600 := Int.mul_le_mul (by omega) (by omega) (by omega) (by omega)
    rw [eG] at hs g1 g2 g3
    have eK : k + (left.length - (k + 1)) = m := by omega
    simp -dsimp [hk1, e1, ri]
    repeat' (first | omega | (simp -dsimp [E55, ri, ints, hk1, e1, e2, e3, htk, FreeAt, eK]) | (refine Also.intro ?_ fun _ => ?_) | (refine Hold.intro fun _ => ?_) | (refine And.intro ?_ ?_))
    refine ⟨⟨k + 1, by omega⟩, tle_chain rfl ?_, HLe.forget rfl (by intro s; simp [hnext, hps]; repeat' split <;> simp_all), by simp only; omega⟩
    simp [okAll, okv, hs]
    exact ⟨wrap_id (by omega) (by omega), wrap_id (by omega) (by omega)⟩
  · have : k = left.length := by omega
    subst this
    simp -dsimp [hm, ordZ_succ]
    repeat' (first | omega | (simp -dsimp [E55, hm]) | (refine Also.intro ?_ fun _ => ?_) | (refine Hold.intro fun _ => ?_) | (refine And.intro ?_ ?_))
theorem ok55 : ∀ M, FnOK Try.prog 55 (.pure (ordS M))
  | 0 => { call := run_call (fn := Try.f55) (by kernel_rfl) (by kernel_rfl) rfl, heap := fun S' hS => (by cases hS), pure := fun S' hS => (by
      cases hS
      intro d hd
      exact absurd hd.1 (by omega)) }
  | M + 1 => pure_fn (E := E55 M) rfl (.cons ok51 (.cons (ok55 M) .nil)) (ok := alts55) (fn := Try.f55) (by kernel_rfl) (by kernel_rfl) (by kernel_rfl) (by kernel_rfl) rfl (fun _ _ => by simp) (b55 M)

def ordC (l : List Int) : Int × Int := ordZ (trendZ l) l.length [] l
abbrev ChanceS2 : PSpec := { ChanceS with res := fun d => if validB d then .tup [.int .i64 (lowN (ordC d).1 (ordC d).2), .int .i64 (lowD (ordC d).1 (ordC d).2), .int .i64 0] else .tup [.int .i64 0, .int .i64 0, .int .i64 1] }
noncomputable abbrev E20 : Env := { P := Try.prog, fn := tbl [(50, .pure validS), (51, .pure trendS), (55, .pure (ordS 13)), (54, .pure fracS2)], own := [], key := 2000, nt := 22 }
theorem b20 : PureBody E20 [] Try.f20 ChanceS2 := by
  refine pb ?_
  rintro l hl
  by_cases hv : validB l = true
  · obtain ⟨v1, v2⟩ := valid_len hv
    obtain ⟨b1, b2, b3⟩ := ord_inv (trendZ l) l.length [] l rfl
    have f0 : facN l.length ≤ facN 12 := facN_le (by omega)
    have f1 := facN_pos l.length
    simp only [show facN 12 = 479001600 by decide] at f0
    simp -dsimp [Try.f20, E20, ints]
    repeat' (first | omega | (simp -dsimp [E20, ri, cellp, ints, hl, lowPre, hv, ordC]) | (refine Also.intro ?_ fun _ => ?_) | (refine Hold.intro fun _ => ?_) | (refine And.intro ?_ ?_))
  · simp -dsimp [Try.f20, E20, ints]
    repeat' (first | omega | (simp -dsimp [E20, ri, cellp, ints, hl, lowPre, hv]) | (refine Also.intro ?_ fun _ => ?_) | (refine Hold.intro fun _ => ?_) | (refine And.intro ?_ ?_))
theorem ok20 : FnOK Try.prog 20 (.pure ChanceS2) := pure_fn (E := E20) rfl (.cons ok50 (.cons ok51 (.cons (ok55 13) (.cons ok54 .nil)))) (ok := []) (fn := Try.f20) (by kernel_rfl) (by kernel_rfl) (by kernel_rfl) (by kernel_rfl) rfl (fun _ _ => by simp) b20
end Go.Sx

