/- A part of a proof; no conditions. -/
import Derived.Test.YtbdphjgpjhlpmaaSyHf
set_option linter.unusedSimpArgs false
set_option linter.unusedVariables false
set_option maxRecDepth 100000
namespace Go.Sx
open Go.Proofs

/-! chance, Chance, the reference's orders -/
def chZ (l : List Int) : Int × Int := (nextZ (trendZ l) l.length (List.replicate l.length 0) 0 l 0 (0, 0)).2
theorem facN_le : ∀ {n m : Nat}, n ≤ m → facN n ≤ facN m := by
  intro n m h
  induction m with
  | zero => have : n = 0 := by omega
            subst this; exact Nat.le_refl _
  | succ m ih =>
    by_cases e : n = m + 1
    · subst e; exact Nat.le_refl _
    · have := ih (by omega)
      have h1 := facN_pos m
      simp only [facN, Nat.add_mul, Nat.one_mul]; omega
theorem chZ_bound (l : List Int) : 0 ≤ (chZ l).1 ∧ (chZ l).1 ≤ facN l.length ∧ (chZ l).2 = facN l.length := by
  have := next_inv (trendZ l) l.length (List.replicate l.length 0) 0 l 0 (0, 0) rfl
  simp only [chZ]
  simp only at this
  omega
theorem next_from {want : Int} {h : Hp} (M n j : Nat) (left rows : List Int) (so num den : Int) (hn : rows.length = n) (h1 : hget h 2912 0 = some (bO rows)) (h2 : hget h 2904 0 = some (bF num den)) (h3 : hget h 2903 0 = some (bW want)) (h4 : hget h 2905 0 = some bN) :
    (nextS M).go [.osl 2912 0 n 0 j n, .sl 1 (left.map ri), .int .i64 so, .bptr 2904 0 1 0 0, .bptr 2903 0 1 0 0, .bptr 2905 0 1 0 0] h =
      ⟨nextPre M ⟨rows, j, left, so, num, den, want⟩, .tup [], cst h (nextZ want left.length rows j left so (num, den)).1 (nextZ want left.length rows j left so (num, den)).2.1 (nextZ want left.length rows j left so (num, den)).2.2⟩ := by
  have := next_at (want := want) (h := h) ⟨⟨_, h1⟩, ⟨_, h2⟩, h3, h4⟩ M n j (left.map ri) left rows so num den hn rfl
  rwa [cst_self h1 h2] at this
abbrev heap29 (l : List Int) : Hp := hps
        [(2912, { base := 0, blks := [{ z := 1, els := List.replicate l.length [V.int IntKind.i64 0], ty := 3 }] }),
          (2905,
            { base := 0,
              blks :=
                [{ z := 1, els := [[V.fn 52 [V.bptr 2904 0 1 0 0, V.bptr 2903 0 1 0 0, V.bptr 2905 0 1 0 0]]],
                    ty := 85, cl := false }] }),
          (2904, { base := 0, blks := [{ z := 2, els := [[V.int IntKind.i64 0, V.int IntKind.i64 0]], ty := 35 }] }),
          (2903, { base := 0, blks := [{ z := 1, els := [[V.int IntKind.i64 (trendZ l)]], ty := 3 }] }),
          (2902, { base := 0, blks := [{ z := 2, els := [[V.int IntKind.i64 0, V.int IntKind.i64 0]], ty := 35 }] })]
        noH
abbrev chanceS : PSpec := { dom := List Int, enc := fun d => [ints d], dec := fun l => (l.getD 0 .top).toInts, pre := fun d => 1 ≤ d.length ∧ d.length ≤ 12, res := fun d => .agg [.int .i64 (chZ d).1, .int .i64 (chZ d).2] }
abbrev alts29 : Alts := [(5, ([], [[0, 1, 2, 3, 4, 5], [1, 2, 3, 0, 4, 5]]))]
noncomputable abbrev E29 : Env := { P := Try.prog, fn := tbl [(51, .pure trendS), (52, .heap (nextS 13))], own := [12], key := 2900, nt := 16 }
theorem b29 : PureBody E29 alts29 Try.f29 chanceS := by
  refine pb ?_
  rintro l ⟨hl1, hl2⟩
  have hf : facN l.length ≤ facN 12 := facN_le hl2
  simp only [show facN 12 = 479001600 by decide] at hf
  have nx := next_from (h := heap29 l) (want := trendZ l) 13 l.length 0 l (List.replicate l.length 0) 0 0 0 (by simp)
    (by simp [heap29, hget_hps, hps_cons, bO, ri]) (by simp [heap29, hget_hps, hps_cons, bF]) (by simp [heap29, hget_hps, hps_cons, bW]) (by simp [heap29, hget_hps, hps_cons, bN])
  simp only [heap29] at nx
  have e1 : (nextZ (trendZ l) l.length (List.replicate l.length 0) 0 l 0 (0, 0)).2 = chZ l := rfl
  rw [e1] at nx
  simp -dsimp [Try.f29, E29, ints]
  repeat' (first | omega | (simp -dsimp [E29, ri, cellp, ints, hl1, hl2, nx, nextPre, cst, bF, bO]) | (refine Also.intro ?_ fun _ => ?_) | (refine Hold.intro fun _ => ?_) | (refine And.intro ?_ ?_))
theorem ok29 : FnOK Try.prog 29 (.pure chanceS) := pure_fn (E := E29) rfl (.cons ok51 (.cons (ok52 13) .nil)) (ok := alts29) (fn := Try.f29) (by kernel_rfl) (by kernel_rfl) (by kernel_rfl) (by kernel_rfl) rfl (fun _ _ => by simp) b29

abbrev ChanceS : PSpec := { dom := List Int, enc := fun d => [ints d], dec := fun l => (l.getD 0 .top).toInts, pre := fun d => d.length ≤ 9223372036854775807, res := fun d => if validB d then .tup [.int .i64 (lowN (chZ d).1 (chZ d).2), .int .i64 (lowD (chZ d).1 (chZ d).2), .int .i64 0] else .tup [.int .i64 0, .int .i64 0, .int .i64 1] }
noncomputable abbrev E18 : Env := { P := Try.prog, fn := tbl [(21, .pure validS), (29, .pure chanceS), (12, .pure fracS)], own := [], key := 1800, nt := 16 }
theorem b18 : PureBody E18 [] Try.f18 ChanceS := by
  refine pb ?_
  rintro l hl
  by_cases hv : validB l = true
  · obtain ⟨v1, v2⟩ := valid_len hv
    obtain ⟨b1, b2, b3⟩ := chZ_bound l
    have f0 : facN l.length ≤ facN 12 := facN_le (by omega)
    have f1 := facN_pos l.length
    simp only [show facN 12 = 479001600 by decide] at f0
    simp -dsimp [Try.f18, E18, ints]
    repeat' (first | omega | (simp -dsimp [E18, ri, cellp, ints, hl, lowPre, hv]) | (refine Also.intro ?_ fun _ => ?_) | (refine Hold.intro fun _ => ?_) | (refine And.intro ?_ ?_))
  · simp -dsimp [Try.f18, E18, ints]
    repeat' (first | omega | (simp -dsimp [E18, ri, cellp, ints, hl, lowPre, hv]) | (refine Also.intro ?_ fun _ => ?_) | (refine Hold.intro fun _ => ?_) | (refine And.intro ?_ ?_))
theorem ok18 : FnOK Try.prog 18 (.pure ChanceS) := pure_fn (E := E18) rfl (.cons ok21 (.cons ok29 (.cons ok12 .nil))) (ok := []) (fn := Try.f18) (by kernel_rfl) (by kernel_rfl) (by kernel_rfl) (by kernel_rfl) rfl (fun _ _ => by simp) b18

/-! orders -/
def ordZ (least : Int) : Nat → List Int → List Int → Int × Int
  | 0, ch, _ => (if trendZ ch ≥ least then 1 else 0, 1)
  | m + 1, ch, left => (List.range left.length).foldl (fun (s : Int × Int) i =>
      (s.1 + (ordZ least m (ch ++ [left.getD i 0]) (left.take i ++ left.drop (i + 1))).1, s.2 + (ordZ least m (ch ++ [left.getD i 0]) (left.take i ++ left.drop (i + 1))).2)) (0, 0)
def ordTo (least : Int) (m : Nat) (ch left : List Int) (k : Nat) : Int × Int := (List.range k).foldl (fun (s : Int × Int) i =>
      (s.1 + (ordZ least m (ch ++ [left.getD i 0]) (left.take i ++ left.drop (i + 1))).1, s.2 + (ordZ least m (ch ++ [left.getD i 0]) (left.take i ++ left.drop (i + 1))).2)) (0, 0)
theorem ordTo_succ (least : Int) (m : Nat) (ch left : List Int) (k : Nat) : ordTo least m ch left (k + 1) =
    ((ordTo least m ch left k).1 + (ordZ least m (ch ++ [left.getD k 0]) (left.take k ++ left.drop (k + 1))).1, (ordTo least m ch left k).2 + (ordZ least m (ch ++ [left.getD k 0]) (left.take k ++ left.drop (k + 1))).2) := by
  simp [ordTo, List.range_succ, List.foldl_append]
theorem ordZ_succ (least : Int) (m : Nat) (ch left : List Int) : ordZ least (m + 1) ch left = ordTo least m ch left left.length := rfl
theorem ord_inv (least : Int) : ∀ (m : Nat) (ch left : List Int), left.length = m → (ordZ least m ch left).2 = facN m ∧ 0 ≤ (ordZ least m ch left).1 ∧ (ordZ least m ch left).1 ≤ facN m
  | 0, ch, left, _ => by
    simp only [ordZ, facN]
    refine ⟨by omega, ?_, ?_⟩ <;> split <;> omega
  | m + 1, ch, left, hl => by
    have key : ∀ k, k ≤ left.length → (ordTo least m ch left k).2 = k * facN m ∧ 0 ≤ (ordTo least m ch left k).1 ∧ (ordTo least m ch left k).1 ≤ k * facN m := by
      intro k
      induction k with
      | zero => intro _; simp [ordTo]
      | succ k ih =>
        intro hk
        obtain ⟨h1, h2, h3⟩ := ih (by omega)
        obtain ⟨g1, g2, g3⟩ := ord_inv least m (ch ++ [left.getD k 0]) (left.take k ++ left.drop (k + 1)) (by simp; omega)
        have e : ((k + 1 : Nat) : Int) * facN m = k * facN m + facN m := by rw [Int.natCast_add, Int.add_mul]; simp
        rw [ordTo_succ]
        simp only
        omega
    have := key left.length (Nat.le_refl _)
    rw [ordZ_succ]
    rw [hl] at this ⊢
    have e : ((m + 1 : Nat) : Int) * facN m = facN (m + 1) := by simp [facN]
    rw [e] at this
    exact this
theorem ordTo_inv (least : Int) (m : Nat) (ch left : List Int) (hl : left.length = m + 1) (k : Nat) (hk : k ≤ left.length) : 0 ≤ (ordTo least m ch left k).1 ∧ (ordTo least m ch left k).1 ≤ k * facN m ∧ (ordTo least m ch left k).2 = k * facN m := by
  induction k with
  | zero => simp [ordTo]
  | succ k ih =>
    obtain ⟨h1, h2, h3⟩ := ih (by omega)
    obtain ⟨g1, g2, g3⟩ := ord_inv least m (ch ++ [left.getD k 0]) (left.take k ++ left.drop (k + 1)) (by simp; omega)
    have e : ((k + 1 : Nat) : Int) * facN m = k * facN m + facN m := by rw [Int.natCast_add, Int.add_mul]; simp
    rw [ordTo_succ]
    simp only
    omega
abbrev ordS (M : Nat) : PSpec := { dom := List Int × List Int × Int, enc := fun d => [ints d.1, ints d.2.1, .int .i64 d.2.2], dec := fun l => ((l.getD 0 .top).toInts, (l.getD 1 .top).toInts, (l.getD 2 .top).toInt), pre := fun d => d.2.1.length < M ∧ d.1.length + d.2.1.length ≤ 12, res := fun d => .tup [.int .i64 (ordZ d.2.2 d.2.1.length d.1 d.2.1).1, .int .i64 (ordZ d.2.2 d.2.1.length d.1 d.2.1).2] }

def ordC (l : List Int) : Int × Int := ordZ (trendZ l) l.length [] l
abbrev ChanceS2 : PSpec := { ChanceS with res := fun d => if validB d then .tup [.int .i64 (lowN (ordC d).1 (ordC d).2), .int .i64 (lowD (ordC d).1 (ordC d).2), .int .i64 0] else .tup [.int .i64 0, .int .i64 0, .int .i64 1] }
end Go.Sx


