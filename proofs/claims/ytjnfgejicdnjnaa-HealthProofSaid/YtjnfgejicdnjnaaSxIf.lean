/- The plain law behind HealthLoose. No conditions. -/
import Derived.Test.YtjnfgejicdnjnaaSxIe
import Derived.Test.YtjnfgejicdnjnaaSxHn
set_option linter.unusedSimpArgs false
set_option linter.unusedVariables false
set_option maxRecDepth 100000
namespace Go.Sx

/-- The level behind: doubled for one sensor (way 0), or for one gear (way 1). -/
def lv2 (w s c i g : Nat) : Int := if (w = 0 ∧ i = s) ∨ (w = 1 ∧ g = c) then 20 else 10
def rowTo (w s c i k : Nat) : List Int := (List.range k).map (lv2 w s c i)
def tenTo (k : Nat) : List Int := (List.range k).map fun _ => 10
def tabTo (w s c G k : Nat) : List (List Int) := (List.range k).map fun i => rowTo w s c i G
def tensTo (G k : Nat) : List (List Int) := (List.range k).map fun _ => tenTo G
theorem rowTo_succ (w s c i k : Nat) : rowTo w s c i (k + 1) = rowTo w s c i k ++ [lv2 w s c i k] := by simp [rowTo, List.range_succ]
theorem tenTo_succ (k : Nat) : tenTo (k + 1) = tenTo k ++ [10] := by simp [tenTo, List.range_succ]
theorem tabTo_succ (w s c G k : Nat) : tabTo w s c G (k + 1) = tabTo w s c G k ++ [rowTo w s c k G] := by simp [tabTo, List.range_succ]
theorem tensTo_succ (G k : Nat) : tensTo G (k + 1) = tensTo G k ++ [tenTo G] := by simp [tensTo, List.range_succ]
theorem lv2_bound (w s c i g : Nat) : lv2 w s c i g = 10 ∨ lv2 w s c i g = 20 := by unfold lv2; split <;> simp
theorem map_getD {α : Type} (f : Nat → α) (d : α) {n i : Nat} (h : i < n) : ((List.range n).map f).getD i d = f i := by simp [List.getD, h]
theorem hit_loose {w s c S G i g : Nat} (hi : i < S) (hg : g < G) : hitC (tensTo G S) (tabTo w s c G S) 50 i g = decide ((w = 0 ∧ i = s) ∨ (w = 1 ∧ g = c)) := by
  unfold hitC tensTo tabTo
  rw [map_getD _ _ hi, map_getD _ _ hi]
  unfold tenTo rowTo
  rw [map_getD _ _ hg, map_getD _ _ hg]
  unfold lv2
  by_cases h : (w = 0 ∧ i = s) ∨ (w = 1 ∧ g = c)
  · rw [if_pos h]; simp [h]
  · rw [if_neg h]; simp [h]
theorem filter_one (c G : Nat) : (List.range G).filter (fun g => decide (g = c)) = if c < G then [c] else [] := by
  induction G with
  | zero => simp
  | succ G ih =>
    rw [List.range_succ, List.filter_append, ih]
    by_cases h : G = c
    · subst h; simp
    · have : (decide (G = c)) = false := by simpa using h
      simp only [List.filter_cons, List.filter_nil, this]
      by_cases h2 : c < G
      · simp [h2, Nat.lt_succ_of_lt h2]
      · simp [h2]; omega
theorem ch_way0 {s c S G : Nat} (hs : s < S) : chTo (tensTo G S) (tabTo 0 s c G S) 50 S = (List.range G).map fun g : Nat => ((s : Int), (g : Int)) := by
  have key : ∀ k, k ≤ S → chTo (tensTo G S) (tabTo 0 s c G S) 50 k = if s < k then (List.range G).map (fun g : Nat => ((s : Int), (g : Int))) else [] := by
    intro k
    induction k with
    | zero => intro _; simp [chTo]
    | succ k ih =>
      intro hk
      have hl : ((tensTo G S).getD k []).length = G := by unfold tensTo; rw [map_getD _ _ (by omega)]; simp [tenTo]
      rw [chTo_succ, ih (by omega), hl]
      have hr : rowH (tensTo G S) (tabTo 0 s c G S) 50 k G = if k = s then (List.range G).map (fun g : Nat => ((s : Int), (g : Int))) else [] := by
        unfold rowH
        rw [List.filter_congr (q := fun _ => decide (k = s)) (fun g hg => by rw [hit_loose (by omega) (List.mem_range.1 hg)]; simp)]
        by_cases h : k = s
        · subst h
          rw [if_pos rfl, List.filter_eq_self.2 (fun _ _ => by simp)]
        · simp [h]
      rw [hr]
      by_cases h : k = s
      · subst h; simp
      · by_cases h2 : s < k
        · simp [h, h2, Nat.lt_succ_of_lt h2]
        · have : ¬ s < k + 1 := by omega
          simp [h, h2, this]
  rw [key S (Nat.le_refl _), if_pos hs]
theorem ch_way1 {s c S G : Nat} (hc : c < G) : chTo (tensTo G S) (tabTo 1 s c G S) 50 S = (List.range S).map fun i : Nat => ((i : Int), (c : Int)) := by
  have key : ∀ k, k ≤ S → chTo (tensTo G S) (tabTo 1 s c G S) 50 k = (List.range k).map fun i : Nat => ((i : Int), (c : Int)) := by
    intro k
    induction k with
    | zero => intro _; simp [chTo]
    | succ k ih =>
      intro hk
      have hl : ((tensTo G S).getD k []).length = G := by unfold tensTo; rw [map_getD _ _ (by omega)]; simp [tenTo]
      rw [chTo_succ, ih (by omega), hl]
      have hr : rowH (tensTo G S) (tabTo 1 s c G S) 50 k G = [((k : Int), (c : Int))] := by
        unfold rowH
        rw [List.filter_congr (q := fun g => decide (g = c)) (fun g hg => by rw [hit_loose (by omega) (List.mem_range.1 hg)]; simp), filter_one, if_pos hc]
        rfl
      rw [hr, List.range_succ, List.map_append]; rfl
  exact key S (Nat.le_refl _)
theorem tab_ok {S G : Nat} {t : List (List Int)} (hl : t.length = S) (s1 : 1 ≤ S) (s2 : S ≤ 8) (g1 : 1 ≤ G) (g2 : G ≤ 12) (h : ∀ r ∈ t, r.length = G ∧ ∀ x ∈ r, x = 10 ∨ x = 20) : tabB t = true := by
  have h0 : (t.getD 0 []).length = G := by
    have : 0 < t.length := by omega
    rw [List.getD, List.getElem?_eq_getElem this]
    exact (h _ (List.getElem_mem this)).1
  simp only [tabB, Bool.and_eq_true, withinB, decide_eq_true_eq, Bool.not_eq_true', List.any_eq_false]
  refine ⟨by omega, fun r hr => ?_⟩
  obtain ⟨a, b⟩ := h r hr
  simp only [lvRow, Bool.or_eq_true, not_or, bne_iff_ne, ne_eq, Decidable.not_not, Bool.not_eq_true', Bool.not_eq_false, withinB, Bool.and_eq_true, decide_eq_true_eq, allB, List.all_eq_true, a, h0]
  refine ⟨⟨trivial, by omega, by omega⟩, fun x hx => ?_⟩
  rcases b x hx with e | e <;> omega
theorem tens_ok {S G : Nat} : (tensTo G S).length = S ∧ ∀ r ∈ tensTo G S, r.length = G ∧ ∀ x ∈ r, x = 10 ∨ x = 20 := by
  refine ⟨by simp [tensTo], fun r hr => ?_⟩
  obtain ⟨i, _, rfl⟩ := List.mem_map.1 hr
  refine ⟨by simp [tenTo], fun x hx => ?_⟩
  obtain ⟨g, _, rfl⟩ := List.mem_map.1 hx
  exact .inl rfl
theorem tabs_ok {w s c S G : Nat} : (tabTo w s c G S).length = S ∧ ∀ r ∈ tabTo w s c G S, r.length = G ∧ ∀ x ∈ r, x = 10 ∨ x = 20 := by
  refine ⟨by simp [tabTo], fun r hr => ?_⟩
  obtain ⟨i, _, rfl⟩ := List.mem_map.1 hr
  refine ⟨by simp [rowTo], fun x hx => ?_⟩
  obtain ⟨g, _, rfl⟩ := List.mem_map.1 hx
  exact lv2_bound w s c i g
def looseCells (w s c S G : Nat) : List (Int × Int) := if w = 0 then (List.range G).map (fun g : Nat => ((s : Int), (g : Int))) else (List.range S).map fun i : Nat => ((i : Int), (c : Int))
theorem loose_changed {w s c S G : Nat} (hw : w < 2) (s1 : 2 ≤ S) (s2 : S ≤ 8) (g1 : 2 ≤ G) (g2 : G ≤ 12) (hs : s < S) (hc : c < G) : chR (tensTo G S) (tabTo w s c G S) 50 = (looseCells w s c S G, 0) := by
  obtain ⟨l1, h1⟩ := tens_ok (S := S) (G := G)
  obtain ⟨l2, h2⟩ := tabs_ok (w := w) (s := s) (c := c) (S := S) (G := G)
  have t1 := tab_ok l1 (by omega) s2 (by omega) g2 h1
  have t2 := tab_ok l2 (by omega) s2 (by omega) g2 h2
  have e1 : ((tensTo G S).getD 0 []).length = G := by unfold tensTo; rw [map_getD _ _ (by omega)]; simp [tenTo]
  have e2 : ((tabTo w s c G S).getD 0 []).length = G := by unfold tabTo; rw [map_getD _ _ (by omega)]; simp [rowTo]
  unfold chR
  rw [t1, t2, l1, l2, e1, e2]
  simp only [Bool.and_self, beq_self_eq_true, if_true, show withinB 50 0 10000 = true from rfl]
  rcases (by omega : w = 0 ∨ w = 1) with rfl | rfl
  · rw [ch_way0 hs]; rfl
  · rw [ch_way1 hc]; rfl
theorem loose_ok {w s c S G : Nat} (hw : w < 2) (s1 : 2 ≤ S) (s2 : S ≤ 8) (g1 : 2 ≤ G) (g2 : G ≤ 12) (hs : s < S) (hc : c < G) : okCells S G (looseCells w s c S G) = true := by
  have key : ∀ (n : Nat) (f : Nat → Int × Int), (∀ i, i < n → withinB (f i).1 0 ((S : Int) - 1) = true ∧ withinB (f i).2 0 ((G : Int) - 1) = true) → (∀ i, 0 < i → i < n → cmpL [(f (i - 1)).1, (f (i - 1)).2] [(f i).1, (f i).2] < 0) → okTo S G ((List.range n).map f) ((List.range n).map f).length = true := by
    intro n f h1 h2
    simp only [okTo, List.all_eq_true, List.mem_range, List.length_map, List.length_range]
    intro i hi
    unfold okAt
    rw [map_getD _ _ hi, map_getD _ _ (by omega), (h1 i hi).1, (h1 i hi).2]
    simp only [Bool.true_and, Bool.or_eq_true, beq_iff_eq, decide_eq_true_eq]
    by_cases e : i = 0
    · exact .inl e
    · exact .inr (h2 i (by omega) hi)
  unfold okCells
  rw [show withinB (S : Int) 1 8 = true by simp [withinB]; omega, show withinB (G : Int) 1 12 = true by simp [withinB]; omega]
  simp only [Bool.true_and]
  unfold looseCells
  split
  · refine key G _ (fun i hi => ?_) (fun i h0 hi => ?_)
    · simp [withinB]; omega
    · rw [cmp_pair]; exact .inr ⟨rfl, by simp only; omega⟩
  · refine key S _ (fun i hi => ?_) (fun i h0 hi => ?_)
    · simp [withinB]; omega
    · rw [cmp_pair]; exact .inl (by simp only; omega)
theorem all_one {b : List Nat} {n : Nat} {y : Ex1} (h : ∀ x ∈ expN b n, x = y) : minX (expN b n) = y := h _ (minX_mem (expN_pos b n))
/-- The members have the size of no set more. -/
theorem fewest_le {b : List Nat} {n : Nat} {x : Ex1} (hx : x ∈ expN b n) {k : Nat} (hk : k < 2 ^ n) : szX x ≤ szX (exS b k) := by
  obtain ⟨f, hf, he⟩ := expTo_filter b (2 ^ n)
  unfold expN at hx
  rw [he, List.mem_filter, decide_eq_true_eq] at hx
  rw [hx.2]; exact hf k hk
theorem memN_mem {k n i : Nat} (hn : n ≤ 62) (hk : k < 2 ^ n) : i ∈ memN k ↔ (i < n ∧ k.testBit i = true) := by
  rw [memN_lt hn hk, memTo, List.mem_filter, List.mem_range]
theorem one_list {l : List Nat} {x : Nat} (h : l.length ≤ 1) (hx : x ∈ l) : l = [x] := by
  match l, h, hx with
  | [y], _, hx => simp at hx; rw [hx]
theorem worn_len {S G : Nat} {cells : List (Int × Int)} (h : okCells S G cells = true) (k : Nat) : (exS (bysN S cells) k).2 = natI ((List.range G).filter fun g => cells.any (cellHit k g)) := by
  simp only [exS]; rw [wornX_eq h]; rfl
theorem loose_explained {w s c S G : Nat} (hw : w < 2) (s1 : 2 ≤ S) (s2 : S ≤ 8) (g1 : 2 ≤ G) (g2 : G ≤ 12) (hs : s < S) (hc : c < G) :
    explR S G (looseCells w s c S G) = if w = 0 then ([(s : Int)], [], 0) else ([], [(c : Int)], 0) := by
  have hok := loose_ok hw s1 s2 g1 g2 hs hc
  have hworn := worn_len hok
  unfold explR
  rw [if_pos hok, Int.toNat_natCast]
  rcases (by omega : w = 0 ∨ w = 1) with rfl | rfl
  · rw [if_pos rfl]
    have hit : ∀ k g, g < G → ((looseCells 0 s c S G).any (cellHit k g)) = !k.testBit s := by
      intro k g hg
      rw [Bool.eq_iff_iff]
      simp only [looseCells, if_true, List.any_map, List.any_eq_true, List.mem_range, Function.comp, cellHit, Int.toNat_natCast, Bool.and_eq_true, decide_eq_true_eq]
      exact ⟨fun ⟨_, _, _, h⟩ => h, fun h => ⟨g, hg, rfl, h⟩⟩
    have hk : 2 ^ s < 2 ^ S := Nat.pow_lt_pow_right (by decide) hs
    have e2 : ∀ k, (exS (bysN S (looseCells 0 s c S G)) k).2 = if k.testBit s then [] else natI (List.range G) := by
      intro k
      rw [hworn, List.filter_congr (q := fun _ => !k.testBit s) (fun g hg => hit k g (List.mem_range.1 hg))]
      cases k.testBit s
      · rw [show (fun _ : Nat => !false) = (fun _ : Nat => true) from rfl, List.filter_eq_self.2 (fun _ _ => rfl)]; rfl
      · simp [natI]
    have m1 : memN (2 ^ s) = [s] := by
      have h1 : ∀ i, i ∈ memN (2 ^ s) ↔ i = s := fun i => by
        rw [memN_mem (by omega) hk, Nat.testBit_two_pow, decide_eq_true_eq]
        exact ⟨fun h => h.2.symm, fun h => ⟨by omega, h.symm⟩⟩
      have h2 := memN_nodup (2 ^ s)
      cases hl : memN (2 ^ s) with
      | nil => have := (h1 s).2 rfl; rw [hl] at this; simp at this
      | cons a r =>
        rw [hl] at h1 h2
        have ha := (h1 a).1 (by simp)
        cases r with
        | nil => rw [ha]
        | cons b r =>
          have hb := (h1 b).1 (by simp)
          rw [List.nodup_cons] at h2
          exact absurd (by rw [ha, hb]; simp) h2.1
    have z1 : szX (exS (bysN S (looseCells 0 s c S G)) (2 ^ s)) = 1 := by
      unfold szX
      rw [e2, Nat.testBit_two_pow]
      simp [exS, m1]
    have : minX (expN (bysN S (looseCells 0 s c S G)) S) = ([(s : Int)], []) := by
      refine all_one fun x hx => ?_
      have hle := fewest_le hx hk
      obtain ⟨k, hk2, rfl⟩ := expN_at hx
      rw [z1] at hle
      unfold szX at hle
      rw [e2] at hle
      have hx1 : (exS (bysN S (looseCells 0 s c S G)) k).1 = natI (memN k) := rfl
      cases hb : k.testBit s with
      | false => rw [hb, if_neg (by simp), natI_length, List.length_range] at hle; omega
      | true =>
        have hm : s ∈ memN k := (memN_mem (by omega) hk2).2 ⟨hs, hb⟩
        have := one_list (l := memN k) (by rw [hx1, natI_length] at hle; omega) hm
        refine Prod.ext ?_ ?_
        · rw [hx1, this]; rfl
        · rw [e2, hb, if_pos rfl]
    rw [this]
  · rw [if_neg (by decide)]
    have hk : (0 : Nat) < 2 ^ S := Nat.two_pow_pos S
    have hitv : ∀ k g, ((looseCells 1 s c S G).any (cellHit k g)) = (decide (g = c) && (List.range S).any fun i => !k.testBit i) := by
      intro k g
      rw [Bool.eq_iff_iff]
      simp only [looseCells, Nat.one_ne_zero, if_false, List.any_map, List.any_eq_true, List.mem_range, Function.comp, cellHit, Int.toNat_natCast, Bool.and_eq_true, decide_eq_true_eq]
      constructor
      · rintro ⟨i, hi, h1, h2⟩; exact ⟨by omega, i, hi, h2⟩
      · rintro ⟨h1, i, hi, h2⟩; exact ⟨i, hi, by omega, h2⟩
    have e2 : ∀ k, (exS (bysN S (looseCells 1 s c S G)) k).2 = if (List.range S).any (fun i => !k.testBit i) then [(c : Int)] else [] := by
      intro k
      rw [hworn]
      cases ha : (List.range S).any (fun i => !k.testBit i) with
      | true =>
        rw [List.filter_congr (q := fun g => decide (g = c)) (fun g _ => by rw [hitv, ha, Bool.and_true]), filter_one, if_pos hc]; rfl
      | false =>
        rw [List.filter_congr (q := fun g => false) (fun g _ => by rw [hitv, ha, Bool.and_false])]; simp [natI]
    have m0 : memN 0 = [] := by simp [memN, memTo]
    have a0 : (List.range S).any (fun i => !(0 : Nat).testBit i) = true := by
      rw [List.any_eq_true]; exact ⟨0, List.mem_range.2 (by omega), by simp⟩
    have z1 : szX (exS (bysN S (looseCells 1 s c S G)) 0) = 1 := by
      unfold szX
      rw [e2, a0]
      simp [exS, m0]
    have : minX (expN (bysN S (looseCells 1 s c S G)) S) = ([], [(c : Int)]) := by
      refine all_one fun x hx => ?_
      have hle := fewest_le hx hk
      obtain ⟨k, hk2, rfl⟩ := expN_at hx
      rw [z1] at hle
      unfold szX at hle
      rw [e2] at hle
      have hx1 : (exS (bysN S (looseCells 1 s c S G)) k).1 = natI (memN k) := rfl
      rw [hx1, natI_length] at hle
      cases hb : (List.range S).any (fun i => !k.testBit i) with
      | false =>
        exfalso
        rw [List.any_eq_false] at hb
        have b0 := hb 0 (List.mem_range.2 (by omega))
        have b1 := hb 1 (List.mem_range.2 (by omega))
        have c0 : 0 ∈ memN k := (memN_mem (by omega) hk2).2 ⟨by omega, by simpa using b0⟩
        have c1 : 1 ∈ memN k := (memN_mem (by omega) hk2).2 ⟨by omega, by simpa using b1⟩
        have := one_list (l := memN k) (by omega) c0
        rw [this] at c1
        simp at c1
      | true =>
        rw [hb] at hle
        simp only [if_true, List.length_singleton] at hle
        have : memN k = [] := List.eq_nil_of_length_eq_zero (by omega)
        refine Prod.ext ?_ ?_
        · rw [hx1, this]; rfl
        · rw [e2, hb, if_pos rfl]
    rw [this]
end Go.Sx
