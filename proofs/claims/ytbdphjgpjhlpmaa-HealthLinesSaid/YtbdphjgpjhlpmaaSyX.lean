/- HealthSlopes: what Forecast reckons, in plain Lean. No conditions. -/
import Derived.Test.YtbdphjgpjhlpmaaSyW
set_option linter.unusedSimpArgs false
set_option linter.unusedVariables false
namespace Go.Sx
open Go.Sort

theorem low_bounds (x : Frc) : -2000000 ≤ lowN x.1.1 x.1.2 ∧ lowN x.1.1 x.1.2 ≤ 2000000 ∧ 1 ≤ lowD x.1.1 x.1.2 ∧ lowD x.1.1 x.1.2 ≤ 1000000 := by
  obtain ⟨h1, h2, h3, h4⟩ := x.2
  generalize x.1.1 = a at *
  generalize x.1.2 = b at *
  have hg := gcd_pos (n := a) (show 0 < b by omega)
  have k1 := Int.natAbs_tdiv_le_natAbs a (Int.gcd a b)
  have k2 := Int.natAbs_tdiv_le_natAbs b (Int.gcd a b)
  have k3 : 0 < lowD a b := by
    obtain ⟨b', hb⟩ : (Int.gcd a b : Int) ∣ b := Int.gcd_dvd_right a b
    have : lowD a b = b' := by
      unfold lowD
      conv => lhs; arg 1; rw [hb]
      exact Int.mul_tdiv_cancel_left _ (by omega)
    rw [this]
    have h5 : 0 < b' * (Int.gcd a b : Int) := by rw [Int.mul_comm, ← hb]; omega
    exact Int.pos_of_mul_pos_left h5 hg
  unfold lowN
  unfold lowD at k3 ⊢
  omega
theorem mul_bd {x y A B : Int} (h1 : -A ≤ x) (h2 : x ≤ A) (h3 : -B ≤ y) (h4 : y ≤ B) : -(A * B) ≤ x * y ∧ x * y ≤ A * B := by
  have k : x.natAbs * y.natAbs ≤ A.natAbs * B.natAbs := Nat.mul_le_mul (by omega) (by omega)
  rw [← Int.natAbs_mul, ← Int.natAbs_mul] at k
  have : 0 ≤ A * B := Int.mul_nonneg (by omega) (by omega)
  omega
/-- What each value leads to, times the slope's denominator. -/
def fcEnd (h v : List Int) (a p q : Int) (i : Nat) : Int := v.getD i 0 * q + p * (a - h.getD i 0)
def fcTo (h v : List Int) (a p q : Int) (k : Nat) : List Int := (List.range k).map (fcEnd h v a p q)
theorem fcTo_succ (h v : List Int) (a p q : Int) (k : Nat) : fcTo h v a p q (k + 1) = fcTo h v a p q k ++ [fcEnd h v a p q k] := by
  unfold fcTo; rw [List.range_succ, List.map_append]; rfl
theorem fcTo_length (h v : List Int) (a p q : Int) (k : Nat) : (fcTo h v a p q k).length = k := by simp [fcTo]
def intLt (x y : Int) : Bool := decide (x < y)
theorem intSWO : SWO intLt where
  irrefl x := by simp [intLt]
  trans x y z h1 h2 := by simp only [intLt, decide_eq_true_eq] at *; omega
  ntrans x y z h1 h2 := by simp only [intLt, decide_eq_false_iff_not] at *; omega
/-- The one in the middle. -/
noncomputable def fcM (E : List Int) : Int := (inSrt E.toArray).toList.getD ((E.length - 1) / 2) 0
theorem inSrt_len (d : List Int) : (inSrt d.toArray).toList.length = d.length := by simp [inSrt]
theorem inSrt_mem {d : List Int} {x : Int} (h : x ∈ (inSrt d.toArray).toList) : x ∈ d := by
  simpa [inSrt, List.mem_mergeSort] using h
theorem inSrt_perm (d : List Int) : (inSrt d.toArray).toList.Perm d := by
  simpa [inSrt] using List.mergeSort_perm d fun x y => decide (x ≤ y)
theorem inSrt_asc (d : List Int) : Asc intLt (inSrt d.toArray).toList := by
  have h : List.Pairwise (fun x y : Int => decide (x ≤ y) = true) (d.mergeSort fun x y => decide (x ≤ y)) := List.pairwise_mergeSort (fun a b c h1 h2 => by simp only [decide_eq_true_eq] at *; omega) (fun a b => by simp only [Bool.or_eq_true, decide_eq_true_eq]; omega) d
  have e : (inSrt d.toArray).toList = d.mergeSort fun x y => decide (x ≤ y) := by simp [inSrt]
  rw [e]
  intro i j hi hj hij
  have := List.pairwise_iff_getElem.1 h i j hi hj hij
  simp only [decide_eq_true_eq] at this
  simp only [intLt, decide_eq_false_iff_not]
  omega
def below (E : List Int) (x : Int) : Nat := E.countP fun y => decide (y < x)
def equal (E : List Int) (x : Int) : Nat := E.countP fun y => decide (y = x)
abbrev midOk (E : List Int) (x : Int) : Prop := below E x ≤ (E.length - 1) / 2 ∧ (E.length - 1) / 2 < below E x + equal E x
theorem not_above (E : List Int) (x : Int) : (E.countP fun y => !intLt x y) = below E x + equal E x := by
  induction E with
  | nil => rfl
  | cons y l ih =>
    simp only [below, equal, List.countP_cons, intLt] at *
    rw [ih]
    by_cases h1 : y < x
    · have a1 : ¬ x < y := by omega
      have a2 : ¬ y = x := by omega
      simp [h1, a1, a2]; omega
    · by_cases h2 : y = x
      · have a1 : ¬ x < y := by omega
        subst h2; simp; omega
      · have a1 : x < y := by omega
        simp [h1, a1, h2]
theorem mid_eq {E : List Int} {x : Int} (h : 1 ≤ E.length) (hm : midOk E x) : x = fcM E := by
  have hp := inSrt_perm E
  have hl := inSrt_len E
  have hlt : (E.length - 1) / 2 < (inSrt E.toArray).toList.length := by omega
  have c1 : ((inSrt E.toArray).toList.countP fun y => intLt y x) ≤ (E.length - 1) / 2 := by rw [hp.countP_eq]; exact hm.1
  have c2 : (E.length - 1) / 2 < (inSrt E.toArray).toList.countP fun y => !intLt x y := by rw [hp.countP_eq, not_above]; exact hm.2
  obtain ⟨a1, a2⟩ := asc_count intSWO (inSrt_asc E) hlt c1 c2
  rw [fcM, List.getD, List.getElem?_eq_getElem hlt]
  simp only [intLt, decide_eq_false_iff_not, Option.getD_some] at *
  omega
theorem mid_ok {E : List Int} (h : 1 ≤ E.length) : fcM E ∈ E ∧ midOk E (fcM E) := by
  have hp := inSrt_perm E
  have hl := inSrt_len E
  have hlt : (E.length - 1) / 2 < (inSrt E.toArray).toList.length := by omega
  have e : fcM E = (inSrt E.toArray).toList[(E.length - 1) / 2] := by rw [fcM, List.getD, List.getElem?_eq_getElem hlt]; rfl
  refine ⟨by rw [e]; exact inSrt_mem (List.getElem_mem _), ?_, ?_⟩
  · have : ((inSrt E.toArray).toList.countP fun y => intLt y (fcM E)) ≤ (E.length - 1) / 2 := countP_drop fun j hj hij => by
      rw [e]
      by_cases e' : j = (E.length - 1) / 2
      · subst e'; exact intSWO.irrefl _
      · exact inSrt_asc E _ _ hlt hj (by omega)
    rw [hp.countP_eq] at this; exact this
  · have : (E.length - 1) / 2 + 1 ≤ (inSrt E.toArray).toList.countP fun y => !intLt (fcM E) y := countP_take (by omega) fun j hj hij => by
      rw [e]
      by_cases e' : j = (E.length - 1) / 2
      · subst e'; simp [intSWO.irrefl]
      · have h3 := inSrt_asc E _ _ hj hlt (by omega)
        rw [h3]; rfl
    rw [hp.countP_eq, not_above] at this; omega
/-- The reference's best, behind some. -/
def bestTo (E : List Int) : Nat → Int
  | 0 => E.getD 0 0
  | i + 1 => if midOk E (E.getD i 0) then E.getD i 0 else bestTo E i
theorem bestTo_eq {E : List Int} (h : 1 ≤ E.length) : bestTo E E.length = fcM E := by
  obtain ⟨hmem, hok⟩ := mid_ok h
  obtain ⟨j, hj, e⟩ := List.getElem_of_mem hmem
  have : ∀ i, j < i → bestTo E i = fcM E := by
    intro i
    induction i with
    | zero => intro h; omega
    | succ i ih =>
      intro hi
      rw [bestTo]
      split
      · exact mid_eq h ‹_›
      · by_cases e2 : i = j
        · subst e2
          exfalso
          apply ‹¬ midOk E (E.getD i 0)›
          rw [show E.getD i 0 = fcM E by rw [← e]; simp [List.getD, List.getElem?_eq_getElem hj]]
          exact hok
        · exact ih (by omega)
  exact this _ hj
theorem below_take_succ (E : List Int) (x : Int) {k : Nat} (hk : k < E.length) : below (E.take (k + 1)) x = below (E.take k) x + if E[k] < x then 1 else 0 := by
  rw [below, List.take_add_one, List.getElem?_eq_getElem hk, List.countP_append]
  simp [below, List.countP_cons]
theorem equal_take_succ (E : List Int) (x : Int) {k : Nat} (hk : k < E.length) : equal (E.take (k + 1)) x = equal (E.take k) x + if E[k] = x then 1 else 0 := by
  rw [equal, List.take_add_one, List.getElem?_eq_getElem hk, List.countP_append]
  simp [equal, List.countP_cons]
theorem below_le (E : List Int) (x : Int) : below E x ≤ E.length := List.countP_le_length
theorem equal_le (E : List Int) (x : Int) : equal E x ≤ E.length := List.countP_le_length
end Go.Sx
