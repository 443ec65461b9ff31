/- Sorted lists agree place by place, whatever sort made them; fractions. No conditions. -/
import Derived.Test.YtbdphjgpjhlpmaaSyHc
import Derived.Sort.Statements
set_option linter.unusedSimpArgs false
set_option linter.unusedVariables false
namespace Go.Sx
open Go.Sort

section
variable {α : Type} {lt : α → α → Bool}
/-- Ascending, by places. -/
def Asc (lt : α → α → Bool) (l : List α) : Prop := ∀ (i j : Nat) (hi : i < l.length) (hj : j < l.length), i < j → lt l[j] l[i] = false
theorem SWO.le_lt (h : SWO lt) {x y z : α} (h1 : lt y x = false) (h2 : lt y z = true) : lt x z = true := by
  cases hxz : lt x z with
  | true => rfl
  | false => have := h.ntrans y x z h1 hxz; rw [h2] at this; cases this
theorem countP_take {p : α → Bool} {l : List α} {k : Nat} (hk : k ≤ l.length) (h : ∀ (i : Nat) (hi : i < l.length), i < k → p l[i] = true) : k ≤ l.countP p := by
  have h1 : (l.take k).countP p = k := by
    rw [List.countP_eq_length.2, List.length_take, Nat.min_eq_left hk]
    intro x hx
    obtain ⟨i, hi, e⟩ := List.getElem_of_mem hx
    rw [List.length_take] at hi
    rw [List.getElem_take] at e
    rw [← e]; exact h i (by omega) (by omega)
  have h2 := (List.take_sublist k l).countP_le (p := p)
  omega
theorem countP_drop {p : α → Bool} {l : List α} {k : Nat} (h : ∀ (i : Nat) (hi : i < l.length), k ≤ i → p l[i] = false) : l.countP p ≤ k := by
  have h1 : (l.drop k).countP p = 0 := by
    rw [List.countP_eq_zero]
    intro x hx
    obtain ⟨i, hi, e⟩ := List.getElem_of_mem hx
    rw [List.length_drop] at hi
    rw [List.getElem_drop] at e
    rw [← e, h (k + i) (by omega) (by omega)]; decide
  have h2 : l.countP p = (l.take k).countP p + (l.drop k).countP p := by rw [← List.countP_append, List.take_append_drop]
  have h3 := List.countP_le_length (p := p) (l := l.take k)
  rw [List.length_take] at h3
  omega
/-- Two ascending lists of the same members: at each place neither is less. -/
theorem asc_same (hO : SWO lt) {a b : List α} (ha : Asc lt a) (hb : Asc lt b) (hp : a.Perm b) {i : Nat} (hi : i < a.length) (hi' : i < b.length) : lt a[i] b[i] = false := by
  cases h : lt a[i] b[i] with
  | false => rfl
  | true =>
    have c1 : i + 1 ≤ a.countP fun x => lt x b[i] := countP_take (by omega) fun j hj hji => by
      by_cases e : j = i
      · subst e; exact h
      · exact SWO.le_lt hO (ha j i hj hi (by omega)) h
    have c2 : (b.countP fun x => lt x b[i]) ≤ i := countP_drop fun j hj hij => by
      by_cases e : j = i
      · subst e; exact hO.irrefl _
      · exact hb i j hi' hj (by omega)
    rw [hp.countP_eq] at c1
    omega
/-- The member of an ascending list at a place, by counting. -/
theorem asc_count (hO : SWO lt) {a : List α} (ha : Asc lt a) {x : α} {m : Nat} (hm : m < a.length) (h1 : (a.countP fun y => lt y x) ≤ m) (h2 : m < a.countP fun y => !lt x y) : lt a[m] x = false ∧ lt x a[m] = false := by
  constructor
  · cases h : lt a[m] x with
    | false => rfl
    | true =>
      have := countP_take (p := fun y => lt y x) (l := a) (k := m + 1) (by omega) fun j hj hjm => by
        by_cases e : j = m
        · subst e; exact h
        · exact SWO.le_lt hO (ha j m hj hm (by omega)) h
      omega
  · cases h : lt x a[m] with
    | false => rfl
    | true =>
      have := countP_drop (p := fun y => !lt x y) (l := a) (k := m) fun j hj hmj => by
        by_cases e : j = m
        · subst e; simp [h]
        · have h3 := ha m j hm hj (by omega)
          cases h4 : lt x a[j] with
          | true => rfl
          | false => have := hO.ntrans _ _ _ h4 h3; rw [h] at this; cases this
      omega
end

/-- A fraction of the program: so small that no product wraps. -/
abbrev frOk (p : Int × Int) : Prop := -2000000 ≤ p.1 ∧ p.1 ≤ 2000000 ∧ 1 ≤ p.2 ∧ p.2 ≤ 1000000
abbrev Frc : Type := { p : Int × Int // frOk p }
instance : Inhabited Frc := ⟨⟨(0, 1), by decide⟩⟩
def frL (x : Frc) : List Int := [x.1.1, x.1.2]
theorem frL_inj (x y : Frc) (h : frL x = frL y) : x = y := by
  obtain ⟨⟨a, b⟩, hx⟩ := x
  obtain ⟨⟨c, d⟩, hy⟩ := y
  simp only [frL, List.cons.injEq, and_true] at h
  obtain ⟨rfl, rfl⟩ := h
  rfl
def frLt (x y : Frc) : Bool := decide (x.1.1 * y.1.2 < y.1.1 * x.1.2)
theorem mul_lt_cancel {a b c : Int} (hc : 0 < c) (h : a * c < b * c) : a < b := Int.lt_of_mul_lt_mul_right h (by omega)
theorem frSWO : SWO frLt where
  irrefl x := by simp [frLt]
  trans x y z h1 h2 := by
    simp only [frLt, decide_eq_true_eq] at *
    have px := x.2.2.2.1; have py := y.2.2.2.1; have pz := z.2.2.2.1
    have a1 : x.1.1 * y.1.2 * z.1.2 < y.1.1 * x.1.2 * z.1.2 := Int.mul_lt_mul_of_pos_right h1 (by omega)
    have a2 : y.1.1 * z.1.2 * x.1.2 < z.1.1 * y.1.2 * x.1.2 := Int.mul_lt_mul_of_pos_right h2 (by omega)
    refine mul_lt_cancel (c := y.1.2) (by omega) ?_
    have e1 : x.1.1 * z.1.2 * y.1.2 = x.1.1 * y.1.2 * z.1.2 := by ac_rfl
    have e2 : y.1.1 * x.1.2 * z.1.2 = y.1.1 * z.1.2 * x.1.2 := by ac_rfl
    have e3 : z.1.1 * y.1.2 * x.1.2 = z.1.1 * x.1.2 * y.1.2 := by ac_rfl
    omega
  ntrans x y z h1 h2 := by
    simp only [frLt, decide_eq_false_iff_not, Int.not_lt] at *
    have px := x.2.2.2.1; have py := y.2.2.2.1; have pz := z.2.2.2.1
    have a1 : y.1.1 * x.1.2 * z.1.2 ≤ x.1.1 * y.1.2 * z.1.2 := Int.mul_le_mul_of_nonneg_right h1 (by omega)
    have a2 : z.1.1 * y.1.2 * x.1.2 ≤ y.1.1 * z.1.2 * x.1.2 := Int.mul_le_mul_of_nonneg_right h2 (by omega)
    have e1 : x.1.1 * z.1.2 * y.1.2 = x.1.1 * y.1.2 * z.1.2 := by ac_rfl
    have e2 : y.1.1 * x.1.2 * z.1.2 = y.1.1 * z.1.2 * x.1.2 := by ac_rfl
    have e3 : z.1.1 * y.1.2 * x.1.2 = z.1.1 * x.1.2 * y.1.2 := by ac_rfl
    have k : (z.1.1 * x.1.2) * y.1.2 ≤ (x.1.1 * z.1.2) * y.1.2 := by omega
    exact Int.le_of_mul_le_mul_right k (by omega)
theorem dvd_cop {a b c : Int} (h : a ∣ b * c) (hc : Int.gcd a b = 1) : a ∣ c := by
  rw [← Int.natAbs_dvd_natAbs] at h ⊢
  rw [Int.natAbs_mul] at h
  exact Nat.Coprime.dvd_of_dvd_mul_left hc h
/-- Equal fractions have the same lowest terms. -/
theorem low_same {a b c d : Int} (hb : 0 < b) (hd : 0 < d) (h : a * d = c * b) : lowN a b = lowN c d ∧ lowD a b = lowD c d := by
  have hga := gcd_pos (n := a) hb
  have hgc := gcd_pos (n := c) hd
  generalize hg : (Int.gcd a b : Int) = g at *
  generalize hk : (Int.gcd c d : Int) = k at *
  obtain ⟨a', ha⟩ : g ∣ a := hg ▸ Int.gcd_dvd_left a b
  obtain ⟨b', hb'⟩ : g ∣ b := hg ▸ Int.gcd_dvd_right a b
  obtain ⟨c', hc⟩ : k ∣ c := hk ▸ Int.gcd_dvd_left c d
  obtain ⟨d', hd'⟩ : k ∣ d := hk ▸ Int.gcd_dvd_right c d
  have na : lowN a b = a' := by rw [lowN, hg, ha, Int.mul_tdiv_cancel_left _ (by omega)]
  have nb : lowD a b = b' := by rw [lowD, hg, hb', Int.mul_tdiv_cancel_left _ (by omega)]
  have nc : lowN c d = c' := by rw [lowN, hk, hc, Int.mul_tdiv_cancel_left _ (by omega)]
  have nd : lowD c d = d' := by rw [lowD, hk, hd', Int.mul_tdiv_cancel_left _ (by omega)]
  rw [na, nb, nc, nd]
  have hbp : 0 < b' := by
    rw [hb', Int.mul_comm] at hb
    exact Int.pos_of_mul_pos_left hb hga
  have hdp : 0 < d' := by
    rw [hd', Int.mul_comm] at hd
    exact Int.pos_of_mul_pos_left hd hgc
  have cop1 : Int.gcd a' b' = 1 := by
    have : Int.gcd (g * a') (g * b') = g.natAbs * Int.gcd a' b' := Int.gcd_mul_left ..
    rw [← ha, ← hb'] at this
    have h3 : g.natAbs = Int.gcd a b := by omega
    rw [h3] at this
    have hp : 0 < Int.gcd a b := by omega
    exact Nat.eq_of_mul_eq_mul_left hp (by rw [Nat.mul_one]; exact this.symm)
  have cop2 : Int.gcd c' d' = 1 := by
    have : Int.gcd (k * c') (k * d') = k.natAbs * Int.gcd c' d' := Int.gcd_mul_left ..
    rw [← hc, ← hd'] at this
    have h3 : k.natAbs = Int.gcd c d := by omega
    rw [h3] at this
    have hp : 0 < Int.gcd c d := by omega
    exact Nat.eq_of_mul_eq_mul_left hp (by rw [Nat.mul_one]; exact this.symm)
  have hx : a' * d' = c' * b' := by
    rw [ha, hb', hc, hd'] at h
    have e1 : g * a' * (k * d') = (g * k) * (a' * d') := by ac_rfl
    have e2 : k * c' * (g * b') = (g * k) * (c' * b') := by ac_rfl
    rw [e1, e2] at h
    exact Int.eq_of_mul_eq_mul_left (Int.ne_of_gt (Int.mul_pos hga hgc)) h
  have d1 : b' ∣ d' := by
    have : b' ∣ a' * d' := ⟨c', by rw [hx, Int.mul_comm]⟩
    exact dvd_cop this (by rw [Int.gcd_comm]; exact cop1)
  have d2 : d' ∣ b' := by
    have : d' ∣ c' * b' := ⟨a', by rw [← hx, Int.mul_comm]⟩
    exact dvd_cop this (by rw [Int.gcd_comm]; exact cop2)
  have hbd : b' = d' := Int.dvd_antisymm (by omega) (by omega) d1 d2
  subst hbd
  exact ⟨Int.eq_of_mul_eq_mul_right (by omega) hx, rfl⟩
end Go.Sx
