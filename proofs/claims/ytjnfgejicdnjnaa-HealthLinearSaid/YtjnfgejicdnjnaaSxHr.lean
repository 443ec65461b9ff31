/- Class sums of the reference: the plain law behind HealthWhole. No conditions. -/
import Derived.Test.YtjnfgejicdnjnaaSxHo
set_option linter.unusedSimpArgs false
set_option linter.unusedVariables false
set_option maxRecDepth 100000
namespace Go.Sx
open Go.Proofs

def sm (f : Nat → Int) : Nat → Int
  | 0 => 0
  | k + 1 => sm f k + f k
theorem sm_congr {f g : Nat → Int} : ∀ {k : Nat}, (∀ i, i < k → f i = g i) → sm f k = sm g k
  | 0, _ => rfl
  | k + 1, h => by rw [sm, sm, sm_congr fun i hi => h i (by omega), h k (by omega)]
theorem sm_append (f : Nat → Int) (a : Nat) : ∀ b, sm f (a + b) = sm f a + sm (fun j => f (a + j)) b
  | 0 => by simp [sm]
  | b + 1 => by rw [← Nat.add_assoc, sm, sm, sm_append f a b]; omega
theorem sm_add (f g : Nat → Int) : ∀ k, sm (fun i => f i + g i) k = sm f k + sm g k
  | 0 => by simp [sm]
  | k + 1 => by rw [sm, sm, sm, sm_add f g k]; omega
theorem sm_mul (c : Int) (f : Nat → Int) : ∀ k, sm (fun i => c * f i) k = c * sm f k
  | 0 => by simp [sm]
  | k + 1 => by rw [sm, sm, sm_mul c f k, Int.mul_add]
theorem sm_zero : ∀ k, sm (fun _ => 0) k = 0
  | 0 => rfl
  | k + 1 => by rw [sm, sm_zero k]; rfl
theorem sm_const (c : Int) : ∀ k : Nat, sm (fun _ => c) k = c * k
  | 0 => by simp [sm]
  | k + 1 => by rw [sm, sm_const c k, show ((k + 1 : Nat) : Int) = (k : Int) + 1 by omega, Int.mul_add, Int.mul_one]
theorem sm_nonneg {f : Nat → Int} : ∀ {k}, (∀ i, i < k → 0 ≤ f i) → 0 ≤ sm f k
  | 0, _ => by simp [sm]
  | k + 1, h => by
    have h1 := sm_nonneg (f := f) (k := k) fun i hi => h i (by omega)
    have h2 := h k (by omega)
    rw [sm]; omega
theorem sm_bound {f : Nat → Int} {c : Int} : ∀ {k : Nat}, (∀ i, i < k → -c ≤ f i ∧ f i ≤ c) → -(c * k) ≤ sm f k ∧ sm f k ≤ c * k
  | 0, _ => by simp [sm]
  | k + 1, h => by
    have h1 := sm_bound (f := f) (k := k) fun i hi => h i (by omega)
    have h2 := h k (by omega)
    rw [sm, show ((k + 1 : Nat) : Int) = (k : Int) + 1 by omega, Int.mul_add, Int.mul_one]; omega
theorem sm_nil {f : Nat → Int} : ∀ {k}, (∀ i, i < k → 0 ≤ f i) → sm f k = 0 → ∀ i, i < k → f i = 0
  | 0, _, _, i, hi => by omega
  | k + 1, h, h0, i, hi => by
    have h1 := sm_nonneg (f := f) (k := k) fun i hi => h i (by omega)
    have h2 := h k (by omega)
    rw [sm] at h0
    by_cases e : i = k
    · subst e; omega
    · exact sm_nil (k := k) (fun i hi => h i (by omega)) (by omega) i (by omega)
theorem sm_split (f : Nat → Int) (m : Nat) : ∀ q, sm f (q * m) = sm (fun j => sm (fun p => f (j + p * m)) q) m
  | 0 => by rw [Nat.zero_mul]; exact (sm_zero m).symm
  | q + 1 => by
    rw [Nat.succ_mul, sm_append, sm_split f m q]
    have e : sm (fun j => sm (fun p => f (j + p * m)) (q + 1)) m = sm (fun j => sm (fun p => f (j + p * m)) q + f (j + q * m)) m := rfl
    rw [e, sm_add]
    congr 1
    exact sm_congr fun i _ => by rw [Nat.add_comm]
theorem sm_single (f : Nat → Int) (j : Nat) : ∀ m, sm (fun i => if i = j then f i else 0) m = if j < m then f j else 0
  | 0 => by simp [sm]
  | m + 1 => by
    rw [sm, sm_single f j m]
    by_cases h1 : j < m
    · rw [if_pos h1, if_neg (by omega), if_pos (by omega)]; omega
    · by_cases h2 : m = j
      · subst h2; rw [if_neg h1, if_pos rfl, if_pos (by omega)]; omega
      · rw [if_neg h1, if_neg h2, if_neg (by omega)]; omega

theorem pat_sum (l : List Int) {m j : Nat} (hj : j < m) : ∀ k, (patTo l m k).getD j 0 = sm (fun i => if i % m = j then l.getD i 0 else 0) k
  | 0 => by simp [patTo, sm, List.getD, List.getElem?_replicate, hj]
  | k + 1 => by
    rw [patTo_succ, stepP, sm, ← pat_sum l hj k]
    have hl := patTo_len l m k
    unfold modN
    by_cases e : k % m = j
    · subst e
      rw [if_pos rfl]
      simp [List.getD, List.getElem?_set, hl, hj]
    · rw [if_neg e]
      simp [List.getD, List.getElem?_set, e]
theorem pat_class (l : List Int) {m j : Nat} (hj : j < m) (q : Nat) : (patTo l m (q * m)).getD j 0 = sm (fun p => l.getD (j + p * m) 0) q := by
  rw [pat_sum l hj, sm_split]
  have : sm (fun j' => sm (fun p => if (j' + p * m) % m = j then l.getD (j' + p * m) 0 else 0) q) m = sm (fun j' => if j' = j then sm (fun p => l.getD (j' + p * m) 0) q else 0) m := by
    refine sm_congr fun i hi => ?_
    by_cases e : i = j
    · rw [if_pos e]
      refine sm_congr fun p _ => ?_
      rw [Nat.add_mul_mod_self_right, Nat.mod_eq_of_lt hi, if_pos e]
    · rw [if_neg e]
      refine Eq.trans (sm_congr fun p _ => ?_) (sm_zero q)
      rw [Nat.add_mul_mod_self_right, Nat.mod_eq_of_lt hi, if_neg e]
  rw [this, sm_single, if_pos hj]

section
variable {a r P : Nat → Int} {n m : Nat}
/-- The residual's class sums. -/
theorem res_class (hP : ∀ j, j < m → P j = sm (fun p => a (j + p * m)) n) (hr : ∀ i, i < n * m → r i = a i * n - P (i % m)) {j : Nat} (hj : j < m) : sm (fun p => r (j + p * m)) n = 0 := by
  have h1 : sm (fun p => r (j + p * m)) n = sm (fun p => (n : Int) * a (j + p * m) + (-(P j))) n := by
    refine sm_congr fun p hp => ?_
    have : j + p * m < n * m := by
      have : (p + 1) * m ≤ n * m := Nat.mul_le_mul_right _ (by omega)
      rw [Nat.succ_mul] at this; omega
    rw [hr _ this, Nat.add_mul_mod_self_right, Nat.mod_eq_of_lt hj, Int.mul_comm, Int.sub_eq_add_neg]
  rw [h1, sm_add, sm_mul, sm_const, ← hP j hj, Int.neg_mul, Int.mul_comm]; omega
theorem cross (hP : ∀ j, j < m → P j = sm (fun p => a (j + p * m)) n) (hr : ∀ i, i < n * m → r i = a i * n - P (i % m)) : sm (fun i => r i * P (i % m)) (n * m) = 0 := by
  rw [sm_split, ← sm_zero m]
  refine sm_congr fun j hj => ?_
  have : sm (fun p => r (j + p * m) * P ((j + p * m) % m)) n = sm (fun p => P j * r (j + p * m)) n := by
    refine sm_congr fun p _ => ?_
    rw [Nat.add_mul_mod_self_right, Nat.mod_eq_of_lt hj, Int.mul_comm]
  rw [this, sm_mul, res_class hP hr hj, Int.mul_zero]
theorem squares (hP : ∀ j, j < m → P j = sm (fun p => a (j + p * m)) n) (hr : ∀ i, i < n * m → r i = a i * n - P (i % m)) :
    sm (fun i => a i * n * a i * n) (n * m) = sm (fun i => r i * r i) (n * m) + sm (fun i => P (i % m) * P (i % m)) (n * m) := by
  have : sm (fun i => a i * n * a i * n) (n * m) = sm (fun i => (r i * r i + P (i % m) * P (i % m)) + 2 * (r i * P (i % m))) (n * m) := by
    refine sm_congr fun i hi => ?_
    have h := hr i hi
    have e : a i * n = r i + P (i % m) := by omega
    have : a i * n * a i * n = (a i * n) * (a i * n) := by rw [Int.mul_assoc (a i * n)]
    rw [this, e, Int.add_mul, Int.mul_add, Int.mul_add, Int.mul_comm (P (i % m)) (r i)]; omega
  rw [this, sm_add, sm_add, sm_mul, cross hP hr]; omega
theorem alike_iff (h1 : 1 ≤ n) (hm : 0 < m) (hP : ∀ j, j < m → P j = sm (fun p => a (j + p * m)) n) (hr : ∀ i, i < n * m → r i = a i * n - P (i % m)) :
    sm (fun i => r i * r i) (n * m) = 0 ↔ ∀ i, i < n * m → a i = a (i % m) := by
  have hmn : m ≤ n * m := Nat.le_mul_of_pos_left _ h1
  constructor
  · intro h i hi
    have hz := sm_nil (f := fun i => r i * r i) (fun i _ => by
      rcases Int.le_total 0 (r i) with h | h
      · exact Int.mul_nonneg h h
      · exact Int.mul_nonneg_of_nonpos_of_nonpos h h) h
    have hz' : ∀ i, i < n * m → r i = 0 := fun i hi => by
      have := hz i hi
      rcases Int.mul_eq_zero.1 this with h | h <;> exact h
    have hml := Nat.mod_lt i hm
    have e1 := hr i hi
    have e2 := hr (i % m) (by omega)
    rw [hz' i hi] at e1
    rw [hz' (i % m) (by omega), Nat.mod_mod] at e2
    have : a i * n = a (i % m) * n := by omega
    exact Int.eq_of_mul_eq_mul_right (by omega) this
  · intro h
    have hP' : ∀ j, j < m → P j = a j * n := fun j hj => by
      rw [hP j hj, ← sm_const]
      refine sm_congr fun p hp => ?_
      have : j + p * m < n * m := by
        have : (p + 1) * m ≤ n * m := Nat.mul_le_mul_right _ (by omega)
        rw [Nat.succ_mul] at this; omega
      rw [h _ this, Nat.add_mul_mod_self_right, Nat.mod_eq_of_lt hj]
    rw [← sm_zero (n * m)]
    refine sm_congr fun i hi => ?_
    have hml := Nat.mod_lt i hm
    have : r i = 0 := by rw [hr i hi, hP' _ hml, h i hi]; omega
    rw [this]; rfl
end
theorem meas_sm (r : List Int) : ∀ k, k ≤ r.length → (measTo r k).1 = sm (fun i => r.getD i 0 * r.getD i 0) k
  | 0, _ => rfl
  | k + 1, h => by
    rw [measTo_succ r (by omega), stepM, sm, ← meas_sm r k (by omega)]
    simp [List.getD, List.getElem?_eq_getElem (show k < r.length by omega)]
def alB (l : List Int) (m : Nat) : Nat → Bool
  | 0 => true
  | k + 1 => alB l m k && (l.getD k 0 == l.getD (modN k m) 0)
theorem alB_iff (l : List Int) (m : Nat) : ∀ k, alB l m k = true ↔ ∀ i, i < k → l.getD i 0 = l.getD (i % m) 0
  | 0 => by simp [alB]
  | k + 1 => by
    rw [alB, Bool.and_eq_true, alB_iff l m k, beq_iff_eq]
    constructor
    · rintro ⟨h1, h2⟩ i hi
      by_cases e : i = k
      · subst e; exact h2
      · exact h1 i (by omega)
    · intro h
      exact ⟨fun i hi => h i (by omega), h k (by omega)⟩

def sqS (l : List Int) (n : Nat) (k : Nat) : Int := sm (fun i => l.getD i 0 * n * l.getD i 0 * n) k
def enS (r : List Int) (k : Nat) : Int := sm (fun i => r.getD i 0 * r.getD i 0) k
def ptS (P : List Int) (m k : Nat) : Int := sm (fun i => P.getD (modN i m) 0 * P.getD (modN i m) 0) k
def csS (r : List Int) (m j q : Nat) : Int := sm (fun p => r.getD (j + p * m) 0) q
theorem getD_at {l : List Int} {k : Nat} (h : k < l.length) : l.getD k 0 = l[k] := by simp [List.getD, List.getElem?_eq_getElem h]
theorem sqS_succ {l : List Int} {n k : Nat} (h : k < l.length) : sqS l n (k + 1) = sqS l n k + l[k] * n * l[k] * n := by
  rw [← getD_at h]; rfl
theorem enS_succ {r : List Int} {k : Nat} (h : k < r.length) : enS r (k + 1) = enS r k + r[k] * r[k] := by
  rw [← getD_at h]; rfl
theorem ptS_succ {P : List Int} {m k : Nat} (h : modN k m < P.length) : ptS P m (k + 1) = ptS P m k + P[modN k m] * P[modN k m] := by
  rw [← getD_at h]; rfl
theorem csS_succ {r : List Int} {m j q : Nat} (h : j + q * m < r.length) : csS r m j (q + 1) = csS r m j q + r[j + q * m] := by
  rw [← getD_at h]; rfl
theorem alB_succ {l : List Int} {m k : Nat} (h1 : k < l.length) (h2 : modN k m < l.length) : alB l m (k + 1) = (alB l m k && (l[k] == l[modN k m])) := by
  rw [← getD_at h1, ← getD_at h2]; rfl
theorem sqS_bound {l : List Int} {n : Nat} (h : ∀ x ∈ l, -1000000 ≤ x ∧ x ≤ 1000000) (hn : n ≤ 24) (k : Nat) : -(576000000000000 * k) ≤ sqS l n k ∧ sqS l n k ≤ 576000000000000 * k := by
  refine sm_bound fun i _ => ?_
  have b := getD_bound (c := 1000000) (by omega) h i
  generalize l.getD i 0 = x at *
  have m1 := mul_abs (a := x) (b := (n : Int)) (m := 1000000) (n := 24) (by omega) (by omega) (by omega) (by omega)
  have m2 := mul_abs (a := x * n) (b := x) (m := 24000000) (n := 1000000) (by omega) (by omega) (by omega) (by omega)
  have m3 := mul_abs (a := x * n * x) (b := (n : Int)) (m := 24000000000000) (n := 24) (by omega) (by omega) (by omega) (by omega)
  omega
theorem enS_bound {r : List Int} (h : ∀ x ∈ r, -48000000 ≤ x ∧ x ≤ 48000000) (k : Nat) : -(2304000000000000 * k) ≤ enS r k ∧ enS r k ≤ 2304000000000000 * k := by
  refine sm_bound fun i _ => ?_
  have b := getD_bound (c := 48000000) (by omega) h i
  generalize r.getD i 0 = x at *
  have m1 := mul_abs (a := x) (b := x) (m := 48000000) (n := 48000000) (by omega) (by omega) (by omega) (by omega)
  omega
theorem ptS_bound {P : List Int} (h : ∀ x ∈ P, -24000000 ≤ x ∧ x ≤ 24000000) (m k : Nat) : -(576000000000000 * k) ≤ ptS P m k ∧ ptS P m k ≤ 576000000000000 * k := by
  refine sm_bound fun i _ => ?_
  have b := getD_bound (c := 24000000) (by omega) h (modN i m)
  generalize P.getD (modN i m) 0 = x at *
  have m1 := mul_abs (a := x) (b := x) (m := 24000000) (n := 24000000) (by omega) (by omega) (by omega) (by omega)
  omega
theorem csS_bound {r : List Int} (h : ∀ x ∈ r, -48000000 ≤ x ∧ x ≤ 48000000) (m j q : Nat) : -(48000000 * q) ≤ csS r m j q ∧ csS r m j q ≤ 48000000 * q := by
  refine sm_bound fun i _ => ?_
  exact getD_bound (c := 48000000) (by omega) h _
theorem whole_facts {l : List Int} {n : Nat} (h : avgOk l n = true) : ∃ (m : Nat) (r P : List Int), resR l n = (r, 0) ∧ patR l n = (P, 0) ∧ (∃ b c d, measR l 1 n = (⟨enS r l.length, b, c, d⟩, 0)) ∧ 1 ≤ l.length ∧ l.length ≤ 24 ∧ (∀ x ∈ l, -1000000 ≤ x ∧ x ≤ 1000000) ∧ 1 ≤ n ∧ n ≤ 24 ∧ 0 < m ∧ m ≤ 24 ∧ n * m = l.length ∧ r.length = l.length ∧ P.length = m ∧ (∀ x ∈ r, -48000000 ≤ x ∧ x ≤ 48000000) ∧ (∀ x ∈ P, -24000000 ≤ x ∧ x ≤ 24000000) ∧ (∀ j, j < m → csS r m j n = 0) ∧ sqS l n l.length = enS r l.length + ptS P m l.length ∧ (enS r l.length == 0) = alB l m l.length := by
  have hrb := resZ_bound h
  have hrl : (resZ l n).length = l.length := resTo_len l n l.length
  obtain ⟨p1, p2, p3, n', e, p4, p5, p6, p7, p8, p9, p10⟩ := avg_facts h
  have e' : n = n' := by omega
  subst e'
  have hnm : n * divN l.length n = l.length := by rw [Nat.mul_comm]; exact p9
  have hrD : ∀ i, i < l.length → (resZ l n).getD i 0 = l.getD i 0 * n - (patZ l n).getD (modN i (divN l.length n)) 0 := by
    intro i hi
    have : i < (resZ l n).length := by omega
    rw [getD_at this]
    simp [resZ, resTo, resAt, p7]
  have hpz : patZ l n = patTo l (divN l.length n) (n * divN l.length n) := by rw [hnm, patZ, p7]
  have hpl : (patZ l n).length = divN l.length n := by rw [hpz, patTo_len]
  have hpb : ∀ x ∈ patZ l n, -24000000 ≤ x ∧ x ≤ 24000000 := by
    intro x hx
    have := patTo_bound p3 (teethN l n) l.length x hx
    omega
  have hmr : measR l 1 n = (⟨(measTo (resZ l n) l.length).1, (measTo (resZ l n) l.length).2.1, (measTo (resZ l n) l.length).2.2, 1 * n⟩, 0) := by
    simp [measR, h, withinB]
  rw [meas_sm (resZ l n) l.length (by omega)] at hmr
  refine ⟨divN l.length n, resZ l n, patZ l n, by rw [resR, if_pos h], by rw [patR, if_pos h], ⟨_, _, _, hmr⟩, p1, p2, p3, by omega, by omega, p8, by omega, hnm, hrl, hpl, hrb, hpb, ?_⟩
  generalize hm : divN l.length n = m at *
  have hP : ∀ j, j < m → (patZ l n).getD j 0 = sm (fun p => l.getD (j + p * m) 0) n := by
    intro j hj; rw [hpz, pat_class l hj]
  have hr : ∀ i, i < n * m → (resZ l n).getD i 0 = l.getD i 0 * n - (patZ l n).getD (i % m) 0 := fun i hi => hrD i (by omega)
  refine ⟨fun j hj => ?_, ?_, ?_⟩
  · exact res_class (a := fun i => l.getD i 0) (r := fun i => (resZ l n).getD i 0) (P := fun i => (patZ l n).getD i 0) hP hr hj
  · have := squares (a := fun i => l.getD i 0) (r := fun i => (resZ l n).getD i 0) (P := fun i => (patZ l n).getD i 0) hP hr
    rw [hnm] at this
    exact this
  · have := alike_iff (a := fun i => l.getD i 0) (r := fun i => (resZ l n).getD i 0) (P := fun i => (patZ l n).getD i 0) (by omega) p8 hP hr
    rw [hnm] at this
    rw [Bool.eq_iff_iff, beq_iff_eq, alB_iff]
    exact this
end Go.Sx
