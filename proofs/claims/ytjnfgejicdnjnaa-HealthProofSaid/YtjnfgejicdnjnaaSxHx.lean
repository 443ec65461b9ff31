/- The plain law behind HealthExplains. No conditions. -/
import Derived.Test.YtjnfgejicdnjnaaSxHk
set_option linter.unusedSimpArgs false
set_option linter.unusedVariables false
set_option maxRecDepth 100000
namespace Go.Sx

theorem okTo_at {se ge : Int} {cells : List (Int × Int)} {n : Nat} (h : okTo se ge cells n = true) {i : Nat} (hi : i < n) : okAt se ge cells i = true := by
  simp only [okTo, List.all_eq_true, List.mem_range] at h
  exact h i hi
theorem ok_cell {se ge : Int} {cells : List (Int × Int)} (h : okCells se ge cells = true) : ∀ c ∈ cells, 0 ≤ c.1 ∧ c.1 < se ∧ 0 ≤ c.2 ∧ c.2 < ge := by
  intro c hc
  obtain ⟨i, hi, rfl⟩ := List.getElem_of_mem hc
  simp only [okCells, Bool.and_eq_true] at h
  have := okTo_at h.2 hi
  have eG : cells.getD i (0, 0) = cells[i] := by simp [List.getD, List.getElem?_eq_getElem hi]
  simp only [okAt, eG, Bool.and_eq_true, withinB, decide_eq_true_eq] at this
  omega
theorem stepB_bit (l : List Nat) (c : Int × Int) (s g : Nat) (hs : s < l.length) : ((stepB l c).getD s 0).testBit g = ((l.getD s 0).testBit g || (decide (c.1.toNat = s) && decide (c.2.toNat = g))) := by
  unfold stepB orN
  simp only [List.getD, List.getElem?_set]
  by_cases h : c.1.toNat = s
  · subst h
    simp [hs, Nat.testBit_or, Nat.testBit_two_pow]
  · simp [h]
theorem bysTo_bit (se : Int) (cells : List (Int × Int)) (s g : Nat) (hs : s < se.toNat) : ∀ k, k ≤ cells.length → ((bysTo se cells k).getD s 0).testBit g = (cells.take k).any fun c => decide (c.1.toNat = s) && decide (c.2.toNat = g) := by
  intro k
  induction k with
  | zero => intro _; simp [bysTo, List.getD, List.getElem?_replicate]; split <;> simp
  | succ k ih =>
    intro hk
    have hk1 : k < cells.length := hk
    rw [bysTo_succ se cells hk1, stepB_bit _ _ _ _ (by rw [bysTo_length]; exact hs), ih (by omega), List.take_succ_eq_append_getElem hk1, List.any_append]
    simp
theorem wornTo_bit (l : List Nat) (set g : Nat) : ∀ k, (wornTo l set k).testBit g = (List.range k).any fun i => !set.testBit i && (l.getD i 0).testBit g := by
  intro k
  induction k with
  | zero => simp [wornTo]
  | succ k ih =>
    rw [wornTo_succ, List.range_succ, List.any_append]
    cases hb : set.testBit k with
    | true => simp [ih, hb]
    | false => simp [orN, Nat.testBit_or, ih, hb]
/-- Is a cell about this gear, and not about a sensor of the set? -/
def cellHit (set g : Nat) (c : Int × Int) : Bool := decide (c.2 = (g : Int)) && !set.testBit c.1.toNat
theorem worn_bit {se ge : Int} {cells : List (Int × Int)} (h : okCells se ge cells = true) (set g : Nat) : (wornN (bysN se cells) set).testBit g = cells.any (cellHit set g) := by
  have hc := ok_cell h
  have hl : (bysN se cells).length = se.toNat := bysTo_length _ _ _
  unfold wornN
  rw [wornTo_bit, hl, Bool.eq_iff_iff]
  simp only [List.any_eq_true, List.mem_range, Bool.and_eq_true, Bool.not_eq_true', cellHit, decide_eq_true_eq]
  constructor
  · rintro ⟨s, hs, h1, h2⟩
    unfold bysN at h2
    rw [bysTo_bit se cells s g hs _ (Nat.le_refl _), List.take_of_length_le (Nat.le_refl _)] at h2
    simp only [List.any_eq_true, Bool.and_eq_true, decide_eq_true_eq] at h2
    obtain ⟨c, hm, h3, h4⟩ := h2
    have := hc c hm
    exact ⟨c, hm, by omega, by rw [h3]; exact h1⟩
  · rintro ⟨c, hm, h3, h4⟩
    have := hc c hm
    refine ⟨c.1.toNat, by omega, h4, ?_⟩
    unfold bysN
    rw [bysTo_bit se cells _ g (by omega) _ (Nat.le_refl _), List.take_of_length_le (Nat.le_refl _)]
    simp only [List.any_eq_true, Bool.and_eq_true, decide_eq_true_eq]
    exact ⟨c, hm, rfl, by omega⟩
theorem memTo_hi {s k j : Nat} (h : ∀ i, k ≤ i → s.testBit i = false) (hkj : k ≤ j) : memTo s j = memTo s k := by
  obtain ⟨d, rfl⟩ : ∃ d, j = k + d := ⟨j - k, by omega⟩
  clear hkj
  induction d with
  | zero => rfl
  | succ d ih =>
    rw [← Nat.add_assoc, memTo_succ, ih, h (k + d) (by omega)]; simp
theorem memN_lt {s k : Nat} (hk : k ≤ 62) (h : s < 2 ^ k) : memN s = memTo s k :=
  memTo_hi (fun i hi => Nat.testBit_lt_two_pow (Nat.lt_of_lt_of_le h (Nat.pow_le_pow_right (by decide) hi))) hk
theorem worn_hi {se ge : Int} {cells : List (Int × Int)} (h : okCells se ge cells = true) (set i : Nat) (hi : ge.toNat ≤ i) : (wornN (bysN se cells) set).testBit i = false := by
  rw [worn_bit h]
  simp only [List.any_eq_false, cellHit, Bool.and_eq_true, decide_eq_true_eq, not_and]
  intro c hc e
  have := ok_cell h c hc
  omega
def wornX (ge : Nat) (set : Nat) (cells : List (Int × Int)) (k : Nat) : List Nat := (List.range k).filter fun g => cells.any (cellHit set g)
theorem wornX_eq {se ge : Int} {cells : List (Int × Int)} (h : okCells se ge cells = true) (set : Nat) : memN (wornN (bysN se cells) set) = wornX ge.toNat set cells ge.toNat := by
  have hg : ge ≤ 12 ∧ 1 ≤ ge := by simp only [okCells, Bool.and_eq_true, withinB, decide_eq_true_eq] at h; omega
  rw [show memN (wornN (bysN se cells) set) = memTo (wornN (bysN se cells) set) ge.toNat from memTo_hi (worn_hi h set) (by omega)]
  unfold memTo wornX
  exact List.filter_congr fun g _ => worn_bit h set g
theorem wornX_succ (ge set : Nat) (cells : List (Int × Int)) (k : Nat) : wornX ge set cells (k + 1) = wornX ge set cells k ++ if cells.any (cellHit set k) then [k] else [] := by
  simp only [wornX, List.range_succ, List.filter_append, List.filter_cons, List.filter_nil]
theorem wornX_not (ge set : Nat) (cells : List (Int × Int)) (k : Nat) : k ∉ wornX ge set cells k := by
  simp [wornX]
/-- The sets in their order. -/
def exS (b : List Nat) (k : Nat) : Ex1 := (natI (memN k), natI (memN (wornN b k)))
def szX (x : Ex1) : Nat := x.1.length + x.2.length
def better (x m : Ex1) : Bool := decide (szX x < szX m) || (decide (szX x = szX m) && decide (cmpX x m < 0))
theorem stepE_eq (b : List Nat) (out : List Ex1) (k : Nat) : stepE b out k = match out with
    | [] => [exS b k]
    | y :: out => if szX (exS b k) > szX y then y :: out else if szX (exS b k) < szX y then [exS b k] else (y :: out) ++ [exS b k] := rfl
theorem cmpX_self (x : Ex1) : cmpX x x = 0 := by
  have hz : ∀ a : Int, cmpZ a a = 0 := fun a => by simp [cmpZ]
  have : ∀ a, cmpL a a = 0 := by
    intro a
    induction a with
    | nil => rfl
    | cons x a ih => simp [cmpL, hz, ih]
  simp [cmpX, this]
theorem minTo_app (l r : List Ex1) (hl : 0 < l.length) : ∀ k, k ≤ l.length → minTo (l ++ r) k = minTo l k := by
  intro k
  induction k with
  | zero => intro _; simp [minTo, List.getD, List.getElem?_append_left hl]
  | succ k ih =>
    intro hk
    have hk1 : k < l.length := hk
    rw [minTo_succ, minTo_succ, ih (by omega), show (l ++ r).getD k ([], []) = l.getD k ([], []) by simp only [List.getD, List.getElem?_append_left hk1]]
theorem minX_snoc (l : List Ex1) (x : Ex1) (hl : 0 < l.length) : minX (l ++ [x]) = if cmpX x (minX l) < 0 then x else minX l := by
  unfold minX
  rw [List.length_append, List.length_singleton, minTo_succ, minTo_app l [x] hl _ (Nat.le_refl _)]
  simp [List.getD]
theorem minX_one (x : Ex1) : minX [x] = x := by
  unfold minX
  simp only [List.length_singleton]
  rw [minTo_succ]
  simp [minTo, List.getD, cmpX_self]
/-- All of the best sets so far have one size. -/
theorem expTo_size (b : List Nat) : ∀ k x, x ∈ expTo b k → ∀ y, y ∈ expTo b k → szX x = szX y := by
  intro k
  induction k with
  | zero => intro x hx; simp [expTo] at hx
  | succ k ih =>
    rw [expTo_succ, stepE_eq]
    cases ho : expTo b k with
    | nil => intro x hx y hy; simp only [List.mem_singleton] at hx hy; rw [hx, hy]
    | cons y0 out =>
      rw [ho] at ih
      simp only
      split
      · exact ih
      · split
        · intro x hx y hy; simp only [List.mem_singleton] at hx hy; rw [hx, hy]
        · have e : szX (exS b k) = szX y0 := by omega
          have key : ∀ x, x ∈ (y0 :: out) ++ [exS b k] → szX x = szX y0 := by
            intro x hx
            rcases List.mem_append.1 hx with hx | hx
            · exact ih x hx y0 (by simp)
            · simp only [List.mem_singleton] at hx; rw [hx, e]
          intro x hx y hy
          rw [key x hx, key y hy]
theorem expTo_pos (b : List Nat) (k : Nat) : 0 < (expTo b (k + 1)).length := by
  rw [expTo_succ, stepE_eq]
  split
  · simp
  · split
    · simp
    · split <;> simp
theorem minX_mem {l : List Ex1} (h : 0 < l.length) : minX l ∈ l := minTo_mem h _ (Nat.le_refl _)
/-- The best so far, by one more set. -/
theorem minX_step (b : List Nat) (k : Nat) : minX (expTo b (k + 2)) = if better (exS b (k + 1)) (minX (expTo b (k + 1))) then exS b (k + 1) else minX (expTo b (k + 1)) := by
  have hp := expTo_pos b k
  have hsz := expTo_size b (k + 1)
  have hm := minX_mem hp
  rw [expTo_succ b (k + 1), stepE_eq]
  generalize expTo b (k + 1) = l at *
  cases l with
  | nil => simp at hp
  | cons y out =>
    simp only
    have e : szX (minX (y :: out)) = szX y := hsz _ hm _ (by simp)
    by_cases h1 : szX (exS b (k + 1)) > szX y
    · rw [if_pos h1, if_neg]
      simp only [better, Bool.or_eq_true, Bool.and_eq_true, decide_eq_true_eq]
      omega
    · rw [if_neg h1]
      by_cases h2 : szX (exS b (k + 1)) < szX y
      · rw [if_pos h2, if_pos, minX_one]
        simp only [better, Bool.or_eq_true, Bool.and_eq_true, decide_eq_true_eq]
        omega
      · rw [if_neg h2, minX_snoc _ _ (by simp)]
        have e2 : szX (exS b (k + 1)) = szX (minX (y :: out)) := by omega
        have : better (exS b (k + 1)) (minX (y :: out)) = decide (cmpX (exS b (k + 1)) (minX (y :: out)) < 0) := by
          simp [better, e2]
        rw [this]
        simp only [decide_eq_true_eq]
theorem minX_first (b : List Nat) : minX (expTo b 1) = exS b 0 := by
  rw [expTo_succ, stepE_eq]
  simp only [expTo, List.range_zero, List.foldl_nil]
  exact minX_one _
/-- The fewest, among the first k sets. -/
theorem expTo_filter (b : List Nat) : ∀ k, ∃ f, (∀ j, j < k → f ≤ szX (exS b j)) ∧ expTo b k = ((List.range k).map (exS b)).filter fun x => decide (szX x = f) := by
  intro k
  induction k with
  | zero => exact ⟨0, fun j h => by omega, by simp [expTo]⟩
  | succ k ih =>
    obtain ⟨f, hf, he⟩ := ih
    rw [expTo_succ, stepE_eq]
    cases ho : expTo b k with
    | nil =>
      cases k with
      | zero => exact ⟨szX (exS b 0), fun j h => by rw [show j = 0 by omega]; exact Nat.le_refl _, by simp [List.range_succ]⟩
      | succ k => have := expTo_pos b k; rw [ho] at this; simp at this
    | cons y out =>
      have hy : szX y = f := by
        have : y ∈ expTo b k := by rw [ho]; simp
        rw [he, List.mem_filter] at this
        simpa using this.2
      simp only
      have hr : ∀ g, ((List.range (k + 1)).map (exS b)).filter (fun x => decide (szX x = g)) = ((List.range k).map (exS b)).filter (fun x => decide (szX x = g)) ++ if szX (exS b k) = g then [exS b k] else [] := by
        intro g
        rw [List.range_succ, List.map_append, List.filter_append]
        by_cases hg : szX (exS b k) = g <;> simp [hg]
      by_cases h1 : szX (exS b k) > szX y
      · refine ⟨f, fun j hj => ?_, ?_⟩
        · by_cases e : j = k
          · subst e; omega
          · exact hf j (by omega)
        · rw [if_pos h1, hr, ← he, ho, if_neg (by omega), List.append_nil]
      · rw [if_neg h1]
        by_cases h2 : szX (exS b k) < szX y
        · refine ⟨szX (exS b k), fun j hj => ?_, ?_⟩
          · by_cases e : j = k
            · subst e; exact Nat.le_refl _
            · have := hf j (by omega); omega
          · rw [if_pos h2, hr, if_pos rfl]
            have : ((List.range k).map (exS b)).filter (fun x => decide (szX x = szX (exS b k))) = [] := by
              rw [List.filter_eq_nil_iff]
              intro x hx
              obtain ⟨j, hj, rfl⟩ := List.mem_map.1 hx
              have := hf j (List.mem_range.1 hj)
              simp only [decide_eq_true_eq]; omega
            rw [this, List.nil_append]
        · refine ⟨f, fun j hj => ?_, ?_⟩
          · by_cases e : j = k
            · subst e; omega
            · exact hf j (by omega)
          · rw [if_neg h2, hr, ← he, ho, if_pos (by omega)]
def sel (b : Bool) (x : Ex1) : List Int := if b then x.1 else x.2
def commonZ (b : Bool) (l : List Ex1) : List Int := (sel b (l.getD 0 ([], []))).filter fun n => l.all fun x => (sel b x).contains n
def certR (se ge : Int) (cells : List (Int × Int)) : List Int × List Int × Int :=
  if okCells se ge cells then (commonZ true (expN (bysN se cells) se.toNat), commonZ false (expN (bysN se cells) se.toNat), 0) else ([], [], 1)
def fewest (b : List Nat) (se : Nat) : Nat := szX (minX (expN b se))
/-- Those of the first k sets that have the fewest members. -/
def minsTo (b : List Nat) (se k : Nat) : List Ex1 := ((List.range k).map (exS b)).filter fun x => decide (szX x = fewest b se)
theorem minsTo_succ (b : List Nat) (se k : Nat) : minsTo b se (k + 1) = minsTo b se k ++ if szX (exS b k) = fewest b se then [exS b k] else [] := by
  unfold minsTo
  rw [List.range_succ, List.map_append, List.filter_append]
  by_cases hg : szX (exS b k) = fewest b se <;> simp [hg]
theorem minsTo_all (b : List Nat) (se : Nat) : minsTo b se (2 ^ se) = expN b se := by
  have hp := expN_pos b se
  obtain ⟨f, hf, he⟩ := expTo_filter b (2 ^ se)
  have hm := minX_mem hp
  have : fewest b se = f := by
    unfold fewest
    unfold expN at hm ⊢
    rw [he, List.mem_filter] at hm
    rw [he]
    simpa using hm.2
  unfold minsTo expN
  rw [this, he]
theorem mem_natI {l : List Nat} {n : Nat} : (n : Int) ∈ natI l ↔ n ∈ l := by
  unfold natI
  rw [List.mem_map]
  exact ⟨fun ⟨a, h, e⟩ => by rwa [← show a = n by omega], fun h => ⟨n, h, rfl⟩⟩
theorem filter_natI (l : List Nat) (p : Int → Bool) : (natI l).filter p = natI (l.filter fun n => p n) := by
  unfold natI
  rw [List.filter_map]; rfl
/-- The numbers below m that are in all lists. -/
theorem common_range {l : List Ex1} {b : Bool} {m : Nat} (h : 0 < l.length) {q : Nat → Bool} (h0 : sel b (l.getD 0 ([], [])) = natI ((List.range m).filter q)) :
    commonZ b l = natI ((List.range m).filter fun n => l.all fun x => (sel b x).contains (n : Int)) := by
  unfold commonZ
  rw [h0, filter_natI, List.filter_filter]
  congr 1
  refine List.filter_congr fun n hn => ?_
  rw [Bool.eq_iff_iff, Bool.and_eq_true]
  refine ⟨fun hh => hh.1, fun hh => ⟨hh, ?_⟩⟩
  have hm : l.getD 0 ([], []) ∈ l := by simp [List.getD, List.getElem?_eq_getElem h]
  have := List.all_eq_true.1 hh _ hm
  rw [h0, List.contains_iff_mem, mem_natI, List.mem_filter] at this
  exact this.2
theorem expN_at {b : List Nat} {se : Nat} {x : Ex1} (h : x ∈ expN b se) : ∃ k, k < 2 ^ se ∧ x = exS b k := by
  rw [← minsTo_all] at h
  unfold minsTo at h
  obtain ⟨k, hk, rfl⟩ := List.mem_map.1 (List.mem_filter.1 h).1
  exact ⟨k, List.mem_range.1 hk, rfl⟩
theorem exS_1 {b : List Nat} {se k : Nat} (hs : se ≤ 62) (hk : k < 2 ^ se) : (exS b k).1 = natI ((List.range se).filter fun n => k.testBit n) := by
  simp only [exS]; rw [memN_lt hs hk]; rfl
theorem common_1 {se ge : Int} {cells : List (Int × Int)} (h : okCells se ge cells = true) : commonZ true (expN (bysN se cells) se.toNat) = natI ((List.range se.toNat).filter fun n => (expN (bysN se cells) se.toNat).all fun x => x.1.contains (n : Int)) := by
  obtain ⟨q1, q2, q3, q4⟩ := okCells_facts h
  have hp := expN_pos (bysN se cells) se.toNat
  have hm : (expN (bysN se cells) se.toNat).getD 0 ([], []) ∈ expN (bysN se cells) se.toNat := by simp [List.getD, List.getElem?_eq_getElem hp]
  obtain ⟨k, hk, he⟩ := expN_at hm
  exact common_range (b := true) hp (q := fun n => k.testBit n) (by rw [he]; exact exS_1 (by omega) hk)
theorem common_2 {se ge : Int} {cells : List (Int × Int)} (h : okCells se ge cells = true) : commonZ false (expN (bysN se cells) se.toNat) = natI ((List.range ge.toNat).filter fun n => (expN (bysN se cells) se.toNat).all fun x => x.2.contains (n : Int)) := by
  have hp := expN_pos (bysN se cells) se.toNat
  have hm : (expN (bysN se cells) se.toNat).getD 0 ([], []) ∈ expN (bysN se cells) se.toNat := by simp [List.getD, List.getElem?_eq_getElem hp]
  obtain ⟨k, hk, he⟩ := expN_at hm
  refine common_range (b := false) hp (q := fun g => cells.any (cellHit k g)) ?_
  rw [he]
  show natI (memN (wornN (bysN se cells) k)) = _
  rw [wornX_eq h]; rfl
theorem count_all (l : List Ex1) (p : Ex1 → Bool) : decide (l.countP p = l.length) = l.all p := by
  rw [Bool.eq_iff_iff, decide_eq_true_eq, List.all_eq_true, List.countP_eq_length]
/-- One pair before another one. -/
theorem cmp_pair (a b c d : Int) : (cmpL [a, b] [c, d] < 0) ↔ (a < c ∨ (a = c ∧ b < d)) := by
  simp only [cmpL, cmpZ]
  split <;> (try split) <;> (try split) <;> (try split) <;> (try split) <;> omega
end Go.Sx
