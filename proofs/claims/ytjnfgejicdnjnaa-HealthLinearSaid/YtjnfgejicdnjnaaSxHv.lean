/- The averages are linear: the plain law behind HealthLinear. No conditions. -/
import Derived.Test.YtjnfgejicdnjnaaSxHq
import Derived.Test.YtjnfgejicdnjnaaSxHr
set_option linter.unusedSimpArgs false
set_option linter.unusedVariables false
set_option maxRecDepth 100000
namespace Go.Sx
open Go.Proofs

theorem avIn_at (s m : List Int) (n mark : Nat) (o : List Int) {j : Nat} (hj : j < o.length) : ∀ k, (avIn s m n mark o k).getD j 0 = o.getD j 0 + (if j < k then valZ s m mark j n else 0)
  | 0 => by simp [avIn]
  | k + 1 => by
    have hl := avIn_len s m n mark o k
    have ih := avIn_at s m n mark o hj k
    rw [avIn_succ, avStep]
    by_cases e : k = j
    · subst e
      rw [if_neg (by omega)] at ih
      rw [if_pos (by omega), ih]
      simp [List.getD, List.getElem?_set, hl, hj]
    · have : ((avIn s m n mark o k).set k ((avIn s m n mark o k).getD k 0 + valZ s m mark k n)).getD j 0 = (avIn s m n mark o k).getD j 0 := by
        simp [List.getD, List.getElem?_set, e]
      rw [this, ih]
      by_cases h : j < k
      · rw [if_pos h, if_pos (by omega)]
      · rw [if_neg h, if_neg (by omega)]
theorem avTo_at (s m : List Int) {n j : Nat} (hj : j < n) : ∀ mk, (avTo s m n mk).getD j 0 = sm (fun mark => valZ s m mark j n) mk
  | 0 => by simp [avTo, sm, List.getD, List.getElem?_replicate, hj]
  | mk + 1 => by
    rw [avTo_succ, avIn_at _ _ _ _ _ (by rw [avTo_len]; exact hj), if_pos hj, avTo_at s m hj mk, sm]

theorem val_neg {s s' m : List Int} (h : ∀ i, s'.getD i 0 = - s.getD i 0) (mark k n : Nat) : valZ s' m mark k n = - valZ s m mark k n := by
  simp only [valZ]
  split <;> simp only [h, Int.mul_neg, Int.neg_add]
theorem val_add {s w b m : List Int} (h : ∀ i, b.getD i 0 = s.getD i 0 + w.getD i 0) (mark k n : Nat) : valZ b m mark k n = valZ s m mark k n + valZ w m mark k n := by
  simp only [valZ]
  split
  · simp only [h, Int.mul_add]
  · simp only [h, Int.mul_add]; omega
theorem val_one {s o m : List Int} {c : Int} (hv : chkOk s m = true) (h : ∀ i, i < s.length → o.getD i 0 = c) {mark k n : Nat} (hm : mark + 1 < m.length) (hk : k < n) (hn : n ≤ 24) : valZ o m mark k n = c * n := by
  obtain ⟨a, b, q, r, e1, e2, hab, hbs, eq, er, hrn, haq, hp0, hp1⟩ := mark_facts hv hm hk hn
  have f1 : m.getD mark 0 = a := by rw [getD_at (show mark < m.length by omega), e1]
  have f2 : m.getD (mark + 1) 0 = b := by rw [getD_at hm, e2]
  simp only [valZ, f1, f2, eq, er]
  have g1 : ((a : Int) + q).toNat = a + q := by omega
  have g2 : ((a : Int) + q + 1).toNat = a + q + 1 := by omega
  rw [g1, g2, h _ (by omega), h _ (by omega)]
  split
  · rw [Int.mul_comm]
  · rw [Int.sub_mul, Int.mul_comm (n : Int) c]; omega
section
variable {s m : List Int} {n : Nat} (hv : chkOk s m = true) (hn : n ≤ 24)
theorem av_neg {s' : List Int} (h : ∀ i, s'.getD i 0 = - s.getD i 0) {j : Nat} (hj : j < n) (mk : Nat) : (avTo s' m n mk).getD j 0 = - (avTo s m n mk).getD j 0 := by
  rw [avTo_at _ _ hj, avTo_at _ _ hj]
  have : sm (fun mark => valZ s' m mark j n) mk = sm (fun mark => (-1) * valZ s m mark j n) mk := sm_congr fun i _ => by rw [val_neg h]; omega
  rw [this, sm_mul]; omega
theorem av_add {w b : List Int} (h : ∀ i, b.getD i 0 = s.getD i 0 + w.getD i 0) {j : Nat} (hj : j < n) (mk : Nat) : (avTo b m n mk).getD j 0 = (avTo s m n mk).getD j 0 + (avTo w m n mk).getD j 0 := by
  rw [avTo_at _ _ hj, avTo_at _ _ hj, avTo_at _ _ hj, ← sm_add]
  exact sm_congr fun i _ => val_add h i j n
include hv hn in
theorem av_one {o : List Int} {c : Int} (h : ∀ i, i < s.length → o.getD i 0 = c) {j : Nat} (hj : j < n) : (avTo o m n (m.length - 1)).getD j 0 = c * (n * (m.length - 1 : Nat)) := by
  rw [avTo_at _ _ hj]
  have : sm (fun mark => valZ o m mark j n) (m.length - 1) = sm (fun _ => c * n) (m.length - 1) := sm_congr fun i hi => val_one hv h (by omega) hj hn
  rw [this, sm_const, Int.mul_assoc]
end
/-- The four lists that the law builds. -/
def nzAt (s w : List Int) (i : Nat) : Int :=
  let v := w.getD i 0
  if v < -100 ∨ 100 < v ∨ s.getD i 0 + v < -100 ∨ 100 < s.getD i 0 + v then 0 else v
def oneTo (s : List Int) (k : Nat) : List Int := (List.range k).map fun _ => s.getD 0 0
def negTo (s : List Int) (k : Nat) : List Int := (List.range k).map fun i => - s.getD i 0
def nzTo (s w : List Int) (k : Nat) : List Int := (List.range k).map (nzAt s w)
def bothTo (s w : List Int) (k : Nat) : List Int := (List.range k).map fun i => s.getD i 0 + nzAt s w i
theorem oneTo_succ (s : List Int) (k : Nat) : oneTo s (k + 1) = oneTo s k ++ [s.getD 0 0] := by simp [oneTo, List.range_succ]
theorem negTo_succ (s : List Int) (k : Nat) : negTo s (k + 1) = negTo s k ++ [- s.getD k 0] := by simp [negTo, List.range_succ]
theorem nzTo_succ (s w : List Int) (k : Nat) : nzTo s w (k + 1) = nzTo s w k ++ [nzAt s w k] := by simp [nzTo, List.range_succ]
theorem bothTo_succ (s w : List Int) (k : Nat) : bothTo s w (k + 1) = bothTo s w k ++ [s.getD k 0 + nzAt s w k] := by simp [bothTo, List.range_succ]
theorem map_at {f : Nat → Int} {n i : Nat} (h : i < n) : ((List.range n).map f).getD i 0 = f i := by simp [List.getD, h]
theorem map_out {f : Nat → Int} {n i : Nat} (h : n ≤ i) : ((List.range n).map f).getD i 0 = 0 := by
  simp [List.getD, List.getElem?_eq_none (show (List.range n).length ≤ i by simpa using h)]
theorem getD_out {l : List Int} {i : Nat} (h : l.length ≤ i) : l.getD i 0 = 0 := by simp [List.getD, List.getElem?_eq_none h]
theorem chk_swap {s s' m : List Int} (h : chkOk s m = true) (hl : s'.length = s.length) (hb : ∀ x ∈ s', -100 ≤ x ∧ x ≤ 100) : chkOk s' m = true := by
  simp only [chkOk, Bool.and_eq_true, hl] at h ⊢
  obtain ⟨⟨⟨⟨h1, h2⟩, h3⟩, h4⟩, h5⟩ := h
  refine ⟨⟨⟨⟨h1, ?_⟩, h3⟩, h4⟩, h5⟩
  simp only [allB, List.all_eq_true, withinB, Bool.and_eq_true, decide_eq_true_eq]
  exact hb
theorem nz_bound {s m : List Int} (w : List Int) (hv : chkOk s m = true) (i : Nat) : -100 ≤ nzAt s w i ∧ nzAt s w i ≤ 100 ∧ -100 ≤ s.getD i 0 + nzAt s w i ∧ s.getD i 0 + nzAt s w i ≤ 100 := by
  have := samp hv i
  unfold nzAt
  simp only
  split <;> omega
theorem mem_map_range {f : Nat → Int} {n : Nat} {p : Int → Prop} (h : ∀ i, i < n → p (f i)) : ∀ x ∈ (List.range n).map f, p x := by
  intro x hx
  obtain ⟨i, hi, rfl⟩ := List.mem_map.1 hx
  exact h i (List.mem_range.1 hi)
theorem avTo_bnd {s m : List Int} {n : Nat} (hv : chkOk s m = true) (hn : n ≤ 24) (j : Nat) : -921600 ≤ (avTo s m n (m.length - 1)).getD j 0 ∧ (avTo s m n (m.length - 1)).getD j 0 ≤ 921600 := by
  have hl := chk_len hv
  refine getD_bound (c := 921600) (by omega) (fun x hx => ?_) j
  have := avTo_bound hv hn (m.length - 1) (by omega) x hx
  omega
/-- What HealthLinear needs of the five averages. -/
theorem linear_facts {s m : List Int} (w : List Int) {n : Nat} (hv : chkOk s m = true) (n1 : 1 ≤ n) (hn : n ≤ 24) : ∃ (A B C D E : List Int) (c : Int),
    avR s m n = (A, c, 0) ∧ avR (oneTo s s.length) m n = (B, c, 0) ∧ avR (negTo s s.length) m n = (C, c, 0) ∧ avR (nzTo s w s.length) m n = (D, c, 0) ∧ avR (bothTo s w s.length) m n = (E, c, 0) ∧
    c = n * (m.length - 1 : Nat) ∧ A.length = n ∧ B.length = n ∧ C.length = n ∧ D.length = n ∧ E.length = n ∧
    (∀ j, j < n → B.getD j 0 = s.getD 0 0 * c) ∧ (∀ j, j < n → C.getD j 0 = - A.getD j 0) ∧ (∀ j, j < n → E.getD j 0 = A.getD j 0 + D.getD j 0) ∧
    (∀ j, -921600 ≤ A.getD j 0 ∧ A.getD j 0 ≤ 921600) ∧ (∀ j, -921600 ≤ D.getD j 0 ∧ D.getD j 0 ≤ 921600) := by
  have hw : withinB (n : Int) 1 24 = true := by simp [withinB]; omega
  have v1 : chkOk (oneTo s s.length) m = true := chk_swap hv (by simp [oneTo]) (mem_map_range fun i _ => samp hv 0)
  have v2 : chkOk (negTo s s.length) m = true := chk_swap hv (by simp [negTo]) (mem_map_range fun i _ => by have := samp hv i; omega)
  have v3 : chkOk (nzTo s w s.length) m = true := chk_swap hv (by simp [nzTo]) (mem_map_range fun i _ => by have := nz_bound w hv i; omega)
  have v4 : chkOk (bothTo s w s.length) m = true := chk_swap hv (by simp [bothTo]) (mem_map_range fun i _ => by have := nz_bound w hv i; omega)
  have e : ∀ x : List Int, chkOk x m = true → avR x m n = (avTo x m n (m.length - 1), (n : Int) * ((m.length - 1 : Nat) : Int), 0) := fun x hx => by
    rw [avR, if_pos hx, if_pos hw, Int.toNat_natCast]
  refine ⟨_, _, _, _, _, _, e _ hv, e _ v1, e _ v2, e _ v3, e _ v4, rfl, avTo_len _ _ _ _, avTo_len _ _ _ _, avTo_len _ _ _ _, avTo_len _ _ _ _, avTo_len _ _ _ _, ?_, ?_, ?_, avTo_bnd hv hn, avTo_bnd v3 hn⟩
  · intro j hj
    exact av_one hv hn (fun i hi => by simp only [oneTo]; rw [map_at hi]) hj
  · intro j hj
    refine av_neg (fun i => ?_) hj _
    by_cases hi : i < s.length
    · simp only [negTo]; rw [map_at hi]
    · simp only [negTo]; rw [map_out (by omega), getD_out (show s.length ≤ i by omega)]; rfl
  · intro j hj
    refine av_add (fun i => ?_) hj _
    by_cases hi : i < s.length
    · simp only [bothTo, nzTo]; rw [map_at hi, map_at hi]
    · simp only [bothTo, nzTo]; rw [map_out (by omega), map_out (by omega), getD_out (show s.length ≤ i by omega)]; rfl
end Go.Sx
