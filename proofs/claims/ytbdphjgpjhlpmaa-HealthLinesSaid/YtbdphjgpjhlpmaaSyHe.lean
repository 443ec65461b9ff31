/- A part of a proof; no conditions. -/
import Derived.Test.YtbdphjgpjhlpmaaSyHd
set_option linter.unusedSimpArgs false
set_option linter.unusedVariables false
set_option maxRecDepth 100000
namespace Go.Sx
open Go.Proofs

/-! chance: all orders -/
/-- What 'next' does to the order's row and the two counts: m is how many values are left. -/
def nextZ (want : Int) : Nat → List Int → Nat → List Int → Int → Int × Int → List Int × Int × Int
  | 0, rows, _, _, so, c => (rows, if so ≥ want then c.1 + 1 else c.1, c.2 + 1)
  | m + 1, rows, j, left, so, c => (List.range left.length).foldl (fun (s : List Int × Int × Int) i =>
      nextZ want m (s.1.set j (left.getD i 0)) (j + 1) (left.take i ++ left.drop (i + 1)) (so + gainZ (s.1.take j) (left.getD i 0)) s.2) (rows, c)
/-- The first k rounds. -/
def nextTo (want : Int) (m : Nat) (rows : List Int) (j : Nat) (left : List Int) (so : Int) (c : Int × Int) (k : Nat) : List Int × Int × Int :=
  (List.range k).foldl (fun (s : List Int × Int × Int) i =>
      nextZ want m (s.1.set j (left.getD i 0)) (j + 1) (left.take i ++ left.drop (i + 1)) (so + gainZ (s.1.take j) (left.getD i 0)) s.2) (rows, c)
theorem nextZ_succ (want : Int) (m : Nat) (rows : List Int) (j : Nat) (left : List Int) (so : Int) (c : Int × Int) : nextZ want (m + 1) rows j left so c = nextTo want m rows j left so c left.length := rfl
theorem nextTo_succ (want : Int) (m : Nat) (rows : List Int) (j : Nat) (left : List Int) (so : Int) (c : Int × Int) (k : Nat) : nextTo want m rows j left so c (k + 1) =
    nextZ want m ((nextTo want m rows j left so c k).1.set j (left.getD k 0)) (j + 1) (left.take k ++ left.drop (k + 1)) (so + gainZ ((nextTo want m rows j left so c k).1.take j) (left.getD k 0)) (nextTo want m rows j left so c k).2 := by
  simp [nextTo, List.range_succ, List.foldl_append]
def facN : Nat → Nat
  | 0 => 1
  | n + 1 => (n + 1) * facN n
theorem facN_pos : ∀ n, 0 < facN n
  | 0 => by simp [facN]
  | n + 1 => Nat.mul_pos (by omega) (facN_pos n)
def NextInv (want : Int) (m : Nat) : Prop := ∀ (rows : List Int) (j : Nat) (left : List Int) (so : Int) (c : Int × Int), left.length = m →
    (nextZ want m rows j left so c).1.length = rows.length ∧ (nextZ want m rows j left so c).1.take j = rows.take j ∧ (nextZ want m rows j left so c).2.2 = c.2 + facN m ∧ c.1 ≤ (nextZ want m rows j left so c).2.1 ∧ (nextZ want m rows j left so c).2.1 ≤ c.1 + facN m
theorem nextTo_inv' {want : Int} {m : Nat} (ih0 : NextInv want m) (rows : List Int) (j : Nat) (left : List Int) (so : Int) (c : Int × Int) (hl : left.length = m + 1) : ∀ k, k ≤ left.length → (nextTo want m rows j left so c k).1.length = rows.length ∧ (nextTo want m rows j left so c k).1.take j = rows.take j ∧ (nextTo want m rows j left so c k).2.2 = c.2 + k * facN m ∧ c.1 ≤ (nextTo want m rows j left so c k).2.1 ∧ (nextTo want m rows j left so c k).2.1 ≤ c.1 + k * facN m := by
  intro k
  induction k with
  | zero => intro _; simp [nextTo]
  | succ k ih =>
    intro hk
    obtain ⟨h1, h2, h3, h4, h5⟩ := ih (by omega)
    rw [nextTo_succ]
    obtain ⟨g1, g2, g3, g4, g5⟩ := ih0 ((nextTo want m rows j left so c k).1.set j (left.getD k 0)) (j + 1) (left.take k ++ left.drop (k + 1)) (so + gainZ ((nextTo want m rows j left so c k).1.take j) (left.getD k 0)) (nextTo want m rows j left so c k).2 (by simp; omega)
    have e : ((k + 1 : Nat) : Int) * facN m = k * facN m + facN m := by rw [Int.natCast_add, Int.add_mul]; simp
    refine ⟨by rw [g1]; simp [h1], ?_, by rw [g3, h3, e]; omega, by omega, by omega⟩
    have := congrArg (List.take j) g2
    rw [List.take_take, List.take_take] at this
    simp only [Nat.min_eq_left (Nat.le_succ j)] at this
    rw [this, List.take_set_of_le (Nat.le_refl j), h2]
theorem next_inv (want : Int) : ∀ (m : Nat), NextInv want m
  | 0 => by
    intro rows j left so c _
    simp only [nextZ, facN]
    refine ⟨trivial, trivial, by omega, ?_, ?_⟩ <;> split <;> omega
  | m + 1 => by
    intro rows j left so c hl
    rw [nextZ_succ]
    have := nextTo_inv' (next_inv want m) rows j left so c hl left.length (Nat.le_refl _)
    rw [hl] at this ⊢
    have e : ((m + 1 : Nat) : Int) * facN m = facN (m + 1) := by simp [facN]
    rw [e] at this
    exact this
theorem nextTo_inv (want : Int) (m : Nat) (rows : List Int) (j : Nat) (left : List Int) (so : Int) (c : Int × Int) (hl : left.length = m + 1) : ∀ k, k ≤ left.length → (nextTo want m rows j left so c k).1.length = rows.length ∧ (nextTo want m rows j left so c k).1.take j = rows.take j ∧ (nextTo want m rows j left so c k).2.2 = c.2 + k * facN m ∧ c.1 ≤ (nextTo want m rows j left so c k).2.1 ∧ (nextTo want m rows j left so c k).2.1 ≤ c.1 + k * facN m :=
  nextTo_inv' (next_inv want m) rows j left so c hl
end Go.Sx

