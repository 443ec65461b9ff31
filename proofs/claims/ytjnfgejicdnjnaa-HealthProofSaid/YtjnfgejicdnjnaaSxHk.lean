/- A part of a proof; no conditions. -/
import Derived.Test.YtjnfgejicdnjnaaSxHj
set_option linter.unusedSimpArgs false
set_option linter.unusedVariables false
set_option maxRecDepth 100000
set_option maxHeartbeats 1000000
namespace Go.Sx
open Go.Proofs

/-! the two counts of orders are one -/
theorem trendTo_app (ch : List Int) (v : Int) : ∀ k, k ≤ ch.length → trendTo (ch ++ [v]) k = trendTo ch k := by
  intro k
  induction k with
  | zero => intro _; rfl
  | succ k ih =>
    intro hk
    have hk' : k < ch.length := hk
    rw [trendTo_succ, trendTo_succ, ih (by omega)]
    rw [List.take_append_of_le_length (by omega)]
    congr 2
    simp [List.getD, List.getElem?_append_left hk']
theorem trendZ_snoc (ch : List Int) (v : Int) : trendZ (ch ++ [v]) = trendZ ch + gainZ ch v := by
  have e : ∀ l, trendZ l = trendTo l l.length := fun l => rfl
  rw [e, e, List.length_append, List.length_singleton, trendTo_succ, trendTo_app ch v _ (Nat.le_refl _)]
  congr 2
  · rw [List.take_append_of_le_length (Nat.le_refl _), List.take_of_length_le (Nat.le_refl _)]
  · simp [List.getD]
theorem next_ord (want : Int) : ∀ (m : Nat) (rows : List Int) (j : Nat) (left : List Int) (so : Int) (c : Int × Int), left.length = m → j + m = rows.length → so = trendZ (rows.take j) →
    (nextZ want m rows j left so c).2 = (c.1 + (ordZ want m (rows.take j) left).1, c.2 + (ordZ want m (rows.take j) left).2)
  | 0, rows, j, left, so, c, _, hj, hs => by
    have : rows.take j = rows := List.take_of_length_le (by omega)
    simp only [nextZ, ordZ, hs]
    split <;> simp
  | m + 1, rows, j, left, so, c, hl, hj, hs => by
    rw [nextZ_succ, ordZ_succ]
    have key : ∀ k, k ≤ left.length → (nextTo want m rows j left so c k).2 = (c.1 + (ordTo want m (rows.take j) left k).1, c.2 + (ordTo want m (rows.take j) left k).2) := by
      intro k
      induction k with
      | zero => intro _; simp [nextTo, ordTo]
      | succ k ih =>
        intro hk
        have ih := ih (by omega)
        obtain ⟨n1, n2, _⟩ := nextTo_inv want m rows j left so c hl k (by omega)
        rw [nextTo_succ, ordTo_succ]
        generalize nextTo want m rows j left so c k = s at *
        obtain ⟨rs, c'⟩ := s
        simp only at n1 n2 ih ⊢
        have et : (rs.set j (left.getD k 0)).take (j + 1) = rows.take j ++ [left.getD k 0] := by
          have hj' : j < rs.length := by omega
          rw [List.set_eq_take_append_cons_drop, if_pos hj', List.take_append]
          rw [List.take_of_length_le (by simp; omega), n2]
          congr 1
          have : j + 1 - (rs.take j).length = 1 := by simp; omega
          rw [← n2, this]; simp
        rw [next_ord want m (rs.set j (left.getD k 0)) (j + 1) (left.take k ++ left.drop (k + 1)) _ c' (by simp; omega) (by simp; omega) (by rw [et, trendZ_snoc, n2, hs]), et, ih]
        simp only [Int.add_assoc]
    exact key left.length (Nat.le_refl _)
theorem chZ_eq (l : List Int) : chZ l = ordC l := by
  have := next_ord (trendZ l) l.length (List.replicate l.length 0) 0 l 0 (0, 0) rfl (by simp) (by simp [trendZ])
  simp only [chZ, ordC]
  rw [this]
  simp

def longB (l : List Int) : Bool := decide (6 < l.length) && decide (l.length ≤ 8)
abbrev longS : PSpec := { validS with res := fun d => .bool (longB d) }
noncomputable abbrev E17 : Env := { P := Try.prog, fn := tbl [], own := [], key := 1700, nt := 11 }
theorem b17 : PureBody E17 [] Try.f17 longS := by
  refine pb ?_
  rintro l hl
  by_cases h1 : 6 < l.length
  · by_cases h2 : l.length ≤ 8
    · have e1 : (6 : Int) < l.length := by omega
      have e2 : (l.length : Int) ≤ 8 := by omega
      simp -dsimp [Try.f17, E17, ints, longB]
      repeat' (first | omega | (simp -dsimp [E17, ri, cellp, ints, h1, h2, e1, e2, longB]) | (refine Also.intro ?_ fun _ => ?_) | (refine Hold.intro fun _ => ?_) | (refine And.intro ?_ ?_))
    · have e1 : (6 : Int) < l.length := by omega
      have e2 : ¬ (l.length : Int) ≤ 8 := by omega
      simp -dsimp [Try.f17, E17, ints, longB]
      repeat' (first | omega | (simp -dsimp [E17, ri, cellp, ints, h1, h2, e1, e2, longB]) | (refine Also.intro ?_ fun _ => ?_) | (refine Hold.intro fun _ => ?_) | (refine And.intro ?_ ?_))
  · have e1 : ¬ (6 : Int) < l.length := by omega
    simp -dsimp [Try.f17, E17, ints, longB]
    repeat' (first | omega | (simp -dsimp [E17, ri, cellp, ints, h1, e1, longB]) | (refine Also.intro ?_ fun _ => ?_) | (refine Hold.intro fun _ => ?_) | (refine And.intro ?_ ?_))
theorem ok17 : FnOK Try.prog 17 (.pure longS) := pure_fn (E := E17) rfl LOK.nil (ok := []) (fn := Try.f17) (by kernel_rfl) (by kernel_rfl) (by kernel_rfl) (by kernel_rfl) rfl (fun _ _ => by simp) b17
abbrev trueIntsS : PSpec := { validS with res := fun _ => .bool true }
noncomputable abbrev E3 : Env := { P := Try.prog, fn := tbl [(15, .pure TrendS), (16, .pure TrendS), (17, .pure longS), (18, .pure worksS), (19, .pure ChanceS), (20, .pure ChanceS2)], own := [], key := 300, nt := 60 }
theorem b3 : PureBody E3 [] Try.f3 trueIntsS := by
  refine pb ?_
  rintro l hl
  have hc := chZ_eq l
  by_cases hv : validB l = true
  · by_cases hb : longB l = true
    · simp -dsimp [Try.f3, E3, ints, hv, hb]
      repeat' (first | omega | (simp -dsimp [E3, ri, cellp, ints, hl, hv, hb]) | (refine Also.intro ?_ fun _ => ?_) | (refine Hold.intro fun _ => ?_) | (refine And.intro ?_ ?_))
    · simp -dsimp [Try.f3, E3, ints, hv, hb]
      repeat' (first | omega | (simp -dsimp [E3, ri, cellp, ints, hl, hv, hb, hc]) | (refine Also.intro ?_ fun _ => ?_) | (refine Hold.intro fun _ => ?_) | (refine And.intro ?_ ?_))
  · by_cases hb : longB l = true
    · simp -dsimp [Try.f3, E3, ints, hv, hb]
      repeat' (first | omega | (simp -dsimp [E3, ri, cellp, ints, hl, hv, hb]) | (refine Also.intro ?_ fun _ => ?_) | (refine Hold.intro fun _ => ?_) | (refine And.intro ?_ ?_))
    · simp -dsimp [Try.f3, E3, ints, hv, hb]
      repeat' (first | omega | (simp -dsimp [E3, ri, cellp, ints, hl, hv, hb, hc]) | (refine Also.intro ?_ fun _ => ?_) | (refine Hold.intro fun _ => ?_) | (refine And.intro ?_ ?_))
theorem ok3 : FnOK Try.prog 3 (.pure trueIntsS) := pure_fn (E := E3) rfl (.cons ok15 (.cons ok16 (.cons ok17 (.cons ok18 (.cons ok19 (.cons ok20 .nil)))))) (ok := []) (fn := Try.f3) (by kernel_rfl) (by kernel_rfl) (by kernel_rfl) (by kernel_rfl) rfl (fun _ _ => by simp) b3
end Go.Sx

