/- HealthLines: values on a line have its slope, with one value anywhere else. No conditions. -/
import Derived.Test.YtbdphjgpjhlpmaaSyAa
set_option linter.unusedSimpArgs false
set_option linter.unusedVariables false
namespace Go.Sx
open Go.Sort Go.Proofs

def offLine (S : Int) (p : Int × Int) : Bool := decide (p.1 ≠ S * p.2)
theorem row_diff {h v : List Int} {V S : Int} {odd k : Nat} (hl : ∀ j, j ≤ k → j ≠ odd → v.getD j 0 = V + S * h.getD j 0) : ∀ i, i ≤ k → (slRow h v k i).countP (offLine S) ≤ if k = odd then i else if odd < i then 1 else 0 := by
  intro i
  induction i with
  | zero => intro _; simp [slRow]
  | succ i ih =>
    intro hi
    have h1 := ih (by omega)
    rw [slRow_succ, List.countP_append]
    have h2 : ([(v.getD k 0 - v.getD i 0, h.getD k 0 - h.getD i 0)].countP (offLine S)) ≤ if k = odd then 1 else if i = odd then 1 else 0 := by
      by_cases e1 : k = odd
      · rw [if_pos e1]; exact List.countP_le_length
      · rw [if_neg e1]
        by_cases e2 : i = odd
        · rw [if_pos e2]; exact List.countP_le_length
        · rw [if_neg e2]
          have a1 := hl k (Nat.le_refl _) e1
          have a2 := hl i (by omega) e2
          have : v.getD k 0 - v.getD i 0 = S * (h.getD k 0 - h.getD i 0) := by rw [a1, a2, Int.mul_sub]; omega
          simp only [List.countP_cons, List.countP_nil, offLine, this]
          simp
    by_cases e1 : k = odd
    · rw [if_pos e1] at *; omega
    · rw [if_neg e1] at *
      by_cases e2 : i = odd
      · rw [if_pos e2] at h2
        rw [if_neg (by omega)] at h1
        rw [if_pos (by omega)]
        omega
      · rw [if_neg e2] at h2
        by_cases e3 : odd < i
        · rw [if_pos e3] at h1; rw [if_pos (by omega)]; omega
        · rw [if_neg e3] at h1; rw [if_neg (by omega)]; omega
theorem to_diff {h v : List Int} {V S : Int} {odd n : Nat} (hl : ∀ j, j < n → j ≠ odd → v.getD j 0 = V + S * h.getD j 0) : ∀ k, k ≤ n → (slTo h v k).countP (offLine S) ≤ if k ≤ odd then 0 else k - 1 := by
  intro k
  induction k with
  | zero => intro _; simp [slTo]
  | succ k ih =>
    intro hk
    have h1 := ih (by omega)
    have h2 := row_diff (h := h) (v := v) (V := V) (S := S) (odd := odd) (k := k) (fun j hj => hl j (by omega)) k (Nat.le_refl _)
    rw [slTo_succ, List.countP_append]
    by_cases e1 : k = odd
    · rw [if_pos e1] at h2
      rw [if_pos (by omega)] at h1
      rw [if_neg (by omega)]; omega
    · rw [if_neg e1] at h2
      by_cases e2 : k ≤ odd
      · rw [if_pos e2] at h1
        rw [if_neg (by omega)] at h2
        rw [if_pos (by omega)]; omega
      · rw [if_neg e2] at h1
        rw [if_pos (by omega)] at h2
        rw [if_neg (by omega)]; omega
theorem slTo_len2 (h v : List Int) : ∀ k, 2 * (slTo h v k).length + k = k * k
  | 0 => by simp [slTo]
  | k + 1 => by
    have := slTo_len2 h v k
    rw [slTo_succ, List.length_append, slRow_length, Nat.add_mul, Nat.mul_add, Nat.mul_add]; omega
theorem countP_imp {α : Type} {p q : α → Bool} {l : List α} (h : ∀ x ∈ l, p x = true → q x = true) : l.countP p ≤ l.countP q := List.countP_mono_left h
/-- The slope of a line, and with one value anywhere else. -/
theorem med_line {h v : List Int} {V S : Int} {odd : Nat} (F : SlF h v) (h2 : 2 ≤ v.length) (hl : ∀ j, j < v.length → j ≠ odd → v.getD j 0 = V + S * h.getD j 0) (ho : v.length ≤ odd ∨ 5 ≤ v.length) (hS : -1000 ≤ S ∧ S ≤ 1000) :
    lowN (medF (slFr h v)).1.1 (medF (slFr h v)).1.2 = S ∧ lowD (medF (slFr h v)).1.1 (medF (slFr h v)).1.2 = 1 := by
  have hlt : ltOf frC = frLt := funext fun x => funext fun y => frC_lt x y
  have hd := to_diff hl v.length (Nat.le_refl _)
  have hn := slTo_len2 h v v.length
  have hn8 := F.n8
  have hfl : (slFr h v).length = (slTo h v v.length).length := by simp [slFr]
  have hok := slTo_ok F (Nat.le_refl v.length)
  have hpos := slTo_pos h v h2
  have hD : (slTo h v v.length).countP (offLine S) ≤ ((slTo h v v.length).length - 1) / 2 := by
    rcases ho with ho | ho
    · rw [if_pos ho] at hd; omega
    · have : v.length = 5 ∨ v.length = 6 ∨ v.length = 7 ∨ v.length = 8 := by omega
      have hd' : (slTo h v v.length).countP (offLine S) ≤ v.length - 1 := by split at hd <;> omega
      rcases this with e | e | e | e <;> (rw [e] at hn hd' ⊢; omega)
  let x : Frc := ⟨(S, 1), by refine ⟨?_, ?_, ?_, ?_⟩ <;> simp only <;> omega⟩
  have hx1 : x.1.1 = S := rfl
  have hx2 : x.1.2 = 1 := rfl
  have hmem : ∀ y ∈ slFr h v, ∃ p ∈ slTo h v v.length, y.1 = p := by
    intro y hy
    obtain ⟨p, hp, rfl⟩ := List.mem_map.1 hy
    exact ⟨p, hp, mkFr_val (hok p hp)⟩
  have hcnt : ∀ q : Int × Int → Bool, (slFr h v).countP (fun y => q y.1) = (slTo h v v.length).countP q := by
    intro q
    unfold slFr
    rw [List.countP_map]
    refine List.countP_congr fun p hp => ?_
    simp only [Function.comp, mkFr_val (hok p hp)]
  obtain ⟨hp, hs⟩ := frSrt_spec (slFr h v).toArray
  rw [hlt] at hs
  have hlen := frSrt_len (slFr h v)
  have hperm : (frSrt (slFr h v).toArray).toList.Perm (slFr h v) := by
    have := hp.2.2
    have e1 : ((frSrt (slFr h v).toArray).extract 0 (slFr h v).toArray.size).toList = (frSrt (slFr h v).toArray).toList := by
      have : (slFr h v).toArray.size = (frSrt (slFr h v).toArray).size := by simpa using hlen.symm
      rw [this, Array.extract_size]
    have e2 : ((slFr h v).toArray.extract 0 (slFr h v).toArray.size).toList = slFr h v := by rw [Array.extract_size]
    rw [e1, e2] at this
    exact this
  have hasc : Asc frLt (frSrt (slFr h v).toArray).toList := by
    intro i j hi hj hij
    have := hs i j (Nat.zero_le _) hij (by simpa [hlen] using hj)
    simpa [getElem!_pos, show i < (frSrt (slFr h v).toArray).size by simpa using hi, show j < (frSrt (slFr h v).toArray).size by simpa using hj] using this
  have hm : ((slFr h v).length - 1) / 2 < (frSrt (slFr h v).toArray).toList.length := by omega
  have c1 : ((frSrt (slFr h v).toArray).toList.countP fun y => frLt y x) ≤ ((slFr h v).length - 1) / 2 := by
    rw [hperm.countP_eq]
    refine Nat.le_trans (countP_imp (q := fun y => offLine S y.1) fun y _ hy => ?_) (by rw [hcnt (offLine S), hfl]; exact hD)
    simp only [frLt, hx1, hx2, decide_eq_true_eq, offLine] at *
    omega
  have c2 : ((slFr h v).length - 1) / 2 < (frSrt (slFr h v).toArray).toList.countP fun y => !frLt x y := by
    rw [hperm.countP_eq]
    have k1 : (slFr h v).length = (slFr h v).countP (fun y => !frLt x y) + (slFr h v).countP fun y => ¬ (!frLt x y) = true := List.length_eq_countP_add_countP _
    have k2 : ((slFr h v).countP fun y => ¬ (!frLt x y) = true) ≤ (slFr h v).countP fun y => offLine S y.1 := countP_imp fun y _ hy => by
      simp only [frLt, hx1, hx2, offLine, Bool.not_eq_true', decide_eq_false_iff_not, decide_eq_true_eq, Int.not_lt, Int.not_le] at *
      omega
    rw [hcnt (offLine S)] at k2
    omega
  obtain ⟨a1, a2⟩ := asc_count frSWO hasc hm c1 c2
  have g1 : medF (slFr h v) = (frSrt (slFr h v).toArray).toList[((slFr h v).length - 1) / 2] := by rw [medF]; simp [List.getD, List.getElem?_eq_getElem hm]
  rw [g1]
  generalize (frSrt (slFr h v).toArray).toList[((slFr h v).length - 1) / 2] = y at *
  simp only [frLt, hx1, hx2, decide_eq_false_iff_not, Int.not_lt] at a1 a2
  have py := y.2.2.2.1
  obtain ⟨l1, l2⟩ := low_same (a := y.1.1) (b := y.1.2) (c := S) (d := 1) (by omega) (by omega) (by omega)
  rw [l1, l2]
  simp [lowN, lowD]
/-- What values on a line lead to. -/
theorem fcM_line {h v : List Int} {V S : Int} {a : Int} (h1 : 1 ≤ v.length) (hl : ∀ j, j < v.length → v.getD j 0 = V + S * h.getD j 0) : fcM (fcTo h v a S 1 v.length) = V + S * a := by
  have hm := (mid_ok (E := fcTo h v a S 1 v.length) (by rw [fcTo_length]; exact h1)).1
  unfold fcTo at hm
  obtain ⟨i, hi, e⟩ := List.mem_map.1 hm
  rw [List.mem_range] at hi
  unfold fcTo
  rw [← e, fcEnd, hl i hi, Int.mul_sub]; omega

def lnTo (h : List Int) (V S : Int) (k : Nat) : List Int := (List.range k).map fun j => V + S * h.getD j 0
theorem lnTo_succ (h : List Int) (V S : Int) (k : Nat) : lnTo h V S (k + 1) = lnTo h V S k ++ [V + S * h.getD k 0] := by
  unfold lnTo; rw [List.range_succ, List.map_append]; rfl
theorem lnTo_length (h : List Int) (V S : Int) (k : Nat) : (lnTo h V S k).length = k := by simp [lnTo]
theorem lnTo_getD {h : List Int} {V S : Int} {k j : Nat} (hj : j < k) : (lnTo h V S k).getD j 0 = V + S * h.getD j 0 := by
  simp [lnTo, List.getD, hj]
structure LnF (h : List Int) (V S : Int) : Prop where
  n2 : 2 ≤ h.length
  n8 : h.length ≤ 8
  hV : -1000 ≤ V ∧ V ≤ 1000
  hS : -1000 ≤ S ∧ S ≤ 1000
  hh : ∀ j (hj : j < h.length), 0 ≤ h[j] ∧ h[j] ≤ 900
  hr : ∀ j, j < h.length → risAt h j = true
theorem LnF.val {h : List Int} {V S : Int} (F : LnF h V S) {j : Nat} (hj : j < h.length) : -901000 ≤ V + S * h.getD j 0 ∧ V + S * h.getD j 0 ≤ 901000 := by
  have := F.hh j hj
  rw [← gi hj] at this
  have hV := F.hV; have hS := F.hS
  have m := mul_bd (x := S) (y := h.getD j 0) (A := 1000) (B := 900) (by omega) (by omega) (by omega) (by omega)
  omega
theorem LnF.ok {h : List Int} {V S : Int} (F : LnF h V S) {v : List Int} (hl : v.length = h.length) (hv : ∀ j (hj : j < v.length), -1000000 ≤ v[j] ∧ v[j] ≤ 1000000) : slOk h v = true := by
  have n2 := F.n2; have n8 := F.n8
  have q1 : withinB v.length 1 8 = true := by simp [withinB]; omega
  have q2 : allB v (-1000000) 1000000 = true := allB_all fun j hj => by have := hv j hj; simpa [withinB] using this
  have q3 : allB h 0 1000000 = true := allB_all fun j hj => by have := F.hh j hj; simp [withinB]; omega
  have q4 : risB h = true := risB_all F.hr
  rw [slOk, validB, q1, q2, q3, q4]
  simp [hl]
theorem LnF.okL {h : List Int} {V S : Int} (F : LnF h V S) : slOk h (lnTo h V S h.length) = true := by
  refine F.ok (lnTo_length ..) fun j hj => ?_
  rw [lnTo_length] at hj
  have := F.val hj
  rw [← gi (by rw [lnTo_length]; exact hj), lnTo_getD hj]
  omega
theorem LnF.slope {h : List Int} {V S : Int} (F : LnF h V S) : slR h (lnTo h V S h.length) = (S, 1, 0) := by
  have n2 := F.n2
  obtain ⟨l1, l2⟩ := med_line (odd := h.length) (slOk_facts F.okL) (by rw [lnTo_length]; exact n2) (fun j hj _ => lnTo_getD (by rwa [lnTo_length] at hj)) (.inl (by rw [lnTo_length]; exact Nat.le_refl _)) F.hS
  rw [slR_ok F.okL (by rw [lnTo_length]; omega), l1, l2]
theorem LnF.forecast {h : List Int} {V S a : Int} (F : LnF h V S) (ha : 0 ≤ a ∧ a ≤ 1000000) : fcR h (lnTo h V S h.length) a = (V + S * a, 1, 0) := by
  have n2 := F.n2
  obtain ⟨l1, l2⟩ := med_line (odd := h.length) (slOk_facts F.okL) (by rw [lnTo_length]; exact n2) (fun j hj _ => lnTo_getD (by rwa [lnTo_length] at hj)) (.inl (by rw [lnTo_length]; exact Nat.le_refl _)) F.hS
  rw [fcR_ok F.okL (by simpa [withinB] using ha) (by rw [lnTo_length]; omega), l1, l2]
  have := fcM_line (h := h) (v := lnTo h V S h.length) (V := V) (S := S) (a := a) (by rw [lnTo_length]; omega) (fun j hj => lnTo_getD (by rwa [lnTo_length] at hj))
  rw [this]
  simp [lowN, lowD]
theorem LnF.other {h : List Int} {V S x : Int} {odd : Nat} (F : LnF h V S) (h5 : 5 ≤ h.length) (ho : odd < h.length) (hx : -1000000 ≤ x ∧ x ≤ 1000000) : slR h ((lnTo h V S h.length).set odd x) = (S, 1, 0) := by
  have hok : slOk h ((lnTo h V S h.length).set odd x) = true := by
    refine F.ok (by rw [List.length_set, lnTo_length]) fun j hj => ?_
    rw [List.length_set, lnTo_length] at hj
    rw [List.getElem_set]
    split
    · exact hx
    · have := F.val hj
      rw [← gi (by rw [lnTo_length]; exact hj), lnTo_getD hj]
      omega
  obtain ⟨l1, l2⟩ := med_line (odd := odd) (slOk_facts hok) (by rw [List.length_set, lnTo_length]; omega) (V := V) (S := S) (fun j hj hne => by
    rw [List.length_set, lnTo_length] at hj
    rw [List.getD, List.getElem?_set_ne (Ne.symm hne), ← List.getD]
    exact lnTo_getD hj) (.inr (by rw [List.length_set, lnTo_length]; exact h5)) F.hS
  rw [slR_ok hok (by rw [List.length_set, lnTo_length]; omega), l1, l2]
end Go.Sx
