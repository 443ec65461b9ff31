/- HealthProof: what its law asks, in plain Lean. No conditions. -/
import Derived.Test.YtjnfgejicdnjnaaSxIi
set_option linter.unusedSimpArgs false
set_option linter.unusedVariables false
set_option maxRecDepth 100000
namespace Go.Sx

/-- The cells of the pairs among the first k gears. -/
def cellsTo (o : List Int) (k : Nat) : List (Int × Int) := ((List.range k).filter fun g => decide (0 ≤ o.getD g 0)).map fun g : Nat => (o.getD g 0, (g : Int))
theorem cellsTo_succ (o : List Int) (k : Nat) : cellsTo o (k + 1) = cellsTo o k ++ if 0 ≤ o.getD k 0 then [(o.getD k 0, (k : Int))] else [] := by
  unfold cellsTo
  rw [List.range_succ, List.filter_append, List.map_append]
  congr 1
  by_cases h : 0 ≤ o.getD k 0
  · rw [if_pos h, List.filter_cons_of_pos (by simpa using h)]; rfl
  · rw [if_neg h, List.filter_cons_of_neg (by simpa using h)]; rfl
theorem cellsTo_len (o : List Int) (k : Nat) : (cellsTo o k).length ≤ k := by
  have := List.length_filter_le (fun g => decide (0 ≤ o.getD g 0)) (List.range k)
  simpa [cellsTo] using this
def proofC (S G : Nat) (cells : List (Int × Int)) : List (Int × Int) := cellsTo (proofO S G cells) G
theorem proof_len {S G : Nat} {cells : List (Int × Int)} (h : okCells S G cells = true) : (proofC S G cells).length = fewest (bysN S cells) S := by
  have hK := proof_koenig h
  rw [← proof_many h]
  unfold proofC cellsTo pairsN
  rw [List.length_map, countP_range, hK.pairs.len, List.countP_eq_length_filter]
theorem proof_at {S G : Nat} {cells : List (Int × Int)} (h : okCells S G cells = true) : ∀ c ∈ proofC S G cells, c ∈ cells := by
  intro c hc
  have hK := proof_koenig h
  have hl : (bysN S cells).length = S := by rw [bysN, bysTo_length]; simp
  unfold proofC cellsTo at hc
  obtain ⟨g, hg, rfl⟩ := List.mem_map.1 hc
  rw [List.mem_filter, List.mem_range, decide_eq_true_eq] at hg
  obtain ⟨e1, e2⟩ := hK.pairs.edge g hg.1 hg.2
  rw [hl] at e1
  have hb := bysTo_bit S cells (((proofO S G cells).getD g 0).toNat) g (by simpa using e1) _ (Nat.le_refl _)
  rw [show bysTo S cells cells.length = bysN S cells from rfl, e2, List.take_of_length_le (Nat.le_refl _)] at hb
  have := hb.symm
  rw [List.any_eq_true] at this
  obtain ⟨c, hm, hcc⟩ := this
  simp only [Bool.and_eq_true, decide_eq_true_eq] at hcc
  have hc := ok_cell h c hm
  have : c = ((proofO S G cells).getD g 0, (g : Int)) := Prod.ext (by simp only; omega) (by simp only; omega)
  rw [← this]; exact hm
theorem proof_apart {S G : Nat} {cells : List (Int × Int)} (h : okCells S G cells = true) {i k : Nat} (hi : i < (proofC S G cells).length) (hk : k < i) :
    ((proofC S G cells)[k]'(by omega)).1 ≠ (proofC S G cells)[i].1 ∧ ((proofC S G cells)[k]'(by omega)).2 ≠ (proofC S G cells)[i].2 := by
  have hK := proof_koenig h
  have hp : (proofC S G cells).Pairwise fun a b => a.1 ≠ b.1 ∧ a.2 ≠ b.2 := by
    unfold proofC cellsTo
    rw [List.pairwise_map]
    have hn := List.Pairwise.filter (fun g => decide (0 ≤ (proofO S G cells).getD g 0)) (List.nodup_range (n := G))
    refine List.Pairwise.imp_of_mem (fun {a b} ha hb hab => ?_) hn
    rw [List.mem_filter, List.mem_range, decide_eq_true_eq] at ha hb
    refine ⟨fun e => hab (hK.inj ha.1 hb.1 ha.2 hb.2 (by simp only at e; rw [e])), fun e => hab (by simp only at e; omega)⟩
  exact List.pairwise_iff_getElem.1 hp k i (by omega) hi hk
theorem best_at {b : List Nat} {n : Nat} : ∃ k, k < 2 ^ n ∧ minX (expN b n) = exS b k := expN_at (minX_mem (expN_pos b n))
theorem mem_exS {S G : Nat} {cells : List (Int × Int)} (h : okCells S G cells = true) {k : Nat} (hk : k < 2 ^ S) {s g : Nat} (hs : s < S) (hg : g < G) :
    ((s : Int) ∈ (exS (bysN S cells) k).1 ↔ k.testBit s = true) ∧ ((g : Int) ∈ (exS (bysN S cells) k).2 ↔ (wornN (bysN S cells) k).testBit g = true) := by
  have hS : S ≤ 8 := by simp only [okCells, Bool.and_eq_true, withinB, decide_eq_true_eq] at h; omega
  have hG : G ≤ 12 := by simp only [okCells, Bool.and_eq_true, withinB, decide_eq_true_eq] at h; omega
  simp only [exS]
  rw [mem_natI, mem_natI, memN_mem (by omega) hk]
  refine ⟨⟨fun h => h.2, fun h => ⟨hs, h⟩⟩, ?_⟩
  unfold memN memTo
  rw [List.mem_filter, List.mem_range]
  exact ⟨fun h => h.2, fun h => ⟨by omega, h⟩⟩
theorem cell_edge {S G : Nat} {cells : List (Int × Int)} (h : okCells S G cells = true) {s g : Nat} (hs : s < S) : ((bysN S cells).getD s 0).testBit g = true ↔ ((s : Int), (g : Int)) ∈ cells := by
  have hb := bysTo_bit S cells s g (by simpa using hs) _ (Nat.le_refl _)
  rw [show bysTo S cells cells.length = bysN S cells from rfl, List.take_of_length_le (Nat.le_refl _)] at hb
  rw [hb, List.any_eq_true]
  constructor
  · rintro ⟨c, hm, hcc⟩
    simp only [Bool.and_eq_true, decide_eq_true_eq] at hcc
    have hc := ok_cell h c hm
    have : c = ((s : Int), (g : Int)) := Prod.ext (by simp only; omega) (by simp only; omega)
    rw [← this]; exact hm
  · intro hm; exact ⟨_, hm, by simp⟩
/-- Do two lists explain all cells? -/
def expl (cells : List (Int × Int)) (a b : List Int) : Bool := cells.all fun c => decide (c.1 ∈ a) || decide (c.2 ∈ b)
theorem best_explains {S G : Nat} {cells : List (Int × Int)} (h : okCells S G cells = true) : expl cells (minX (expN (bysN S cells) S)).1 (minX (expN (bysN S cells) S)).2 = true := by
  obtain ⟨k, hk, he⟩ := best_at (b := bysN S cells) (n := S)
  rw [he]
  unfold expl
  rw [List.all_eq_true]
  intro c hc
  obtain ⟨h1, h2, h3, h4⟩ := ok_cell h c hc
  obtain ⟨a, b⟩ := c
  obtain ⟨s, rfl⟩ := Int.eq_ofNat_of_zero_le h1
  obtain ⟨g, rfl⟩ := Int.eq_ofNat_of_zero_le h3
  have hs : s < S := by simp only at h2; omega
  have hg : g < G := by simp only at h4; omega
  obtain ⟨m1, m2⟩ := mem_exS h hk hs hg
  simp only [Bool.or_eq_true, decide_eq_true_eq]
  rcases exS_covers h k s hs g hg ((cell_edge h hs).2 hc) with h | h
  · exact .inl (m1.2 h)
  · exact .inr (m2.2 h)
theorem certain_sub {l : List Ex1} {b : Bool} {x : Ex1} (hx : x ∈ l) : ∀ n ∈ commonZ b l, n ∈ sel b x := by
  intro n hn
  unfold commonZ at hn
  rw [List.mem_filter, List.all_eq_true] at hn
  have := hn.2 x hx
  rwa [List.contains_iff_mem] at this
theorem range_count {S : Nat} {A : List Int} : (List.range S).countP (fun i : Nat => decide ((i : Int) ∈ A)) ≤ A.length := by
  rw [List.countP_eq_length_filter]
  have hn : (((List.range S).filter fun i : Nat => decide ((i : Int) ∈ A)).map fun i : Nat => (i : Int)).Nodup := by
    unfold List.Nodup
    rw [List.pairwise_map]
    exact List.Pairwise.imp (fun hab e => hab (by omega)) (List.Pairwise.filter _ (List.nodup_range (n := S)))
  have := nodup_sub _ A hn (fun x hx => by
    obtain ⟨i, hi, rfl⟩ := List.mem_map.1 hx
    rw [List.mem_filter, decide_eq_true_eq] at hi
    exact hi.2)
  simpa using this
/-- Any explanation: it has at least so many; and if no more, all that is certain. -/
theorem any_expl {S G : Nat} {cells : List (Int × Int)} (h : okCells S G cells = true) {A B : List Int} (he : expl cells A B = true) :
    (proofC S G cells).length ≤ A.length + B.length ∧ (A.length + B.length = (proofC S G cells).length → (∀ n ∈ commonZ true (expN (bysN S cells) S), n ∈ A) ∧ (∀ n ∈ commonZ false (expN (bysN S cells) S), n ∈ B)) := by
  have hK := proof_koenig h
  have hcov : Covers (bysN S cells) G S (fun i => decide ((i : Int) ∈ A)) (fun g => decide ((g : Int) ∈ B)) := by
    intro s hs g hg hb
    have hm := (cell_edge h hs).1 hb
    unfold expl at he
    have := List.all_eq_true.1 he _ hm
    simp only [Bool.or_eq_true] at this
    exact this
  have hw := weak hK hcov
  have c1 := range_count (S := S) (A := A)
  have c2 := range_count (S := G) (A := B)
  rw [proof_many h] at hw
  rw [proof_len h]
  refine ⟨by omega, fun heq => ?_⟩
  have hn := bitsOf_lt (fun i : Nat => decide ((i : Int) ∈ A)) S
  generalize hk : bitsOf (fun i : Nat => decide ((i : Int) ∈ A)) S = k at *
  have hbit : ∀ s, s < S → k.testBit s = decide ((s : Int) ∈ A) := fun s hs => by rw [← hk, bitsOf_bit]; simp [hs]
  have h2 : (List.range S).countP (fun i => k.testBit i) = (List.range S).countP fun i : Nat => decide ((i : Int) ∈ A) :=
    List.countP_congr fun i hi => by rw [hbit i (List.mem_range.1 hi)]
  have hwB : ∀ g, g < G → (wornN (bysN S cells) k).testBit g = true → (g : Int) ∈ B := by
    intro g hg hwg
    obtain ⟨s, hs, hb, he⟩ := (worn_iff h _ g).1 hwg
    rw [hbit s hs] at hb
    rcases hcov s hs g hg he with h | h
    · simp only at h; rw [hb] at h; cases h
    · simpa using h
  have h3 : (List.range G).countP (fun g => (wornN (bysN S cells) k).testBit g) ≤ (List.range G).countP fun g : Nat => decide ((g : Int) ∈ B) :=
    List.countP_mono_left fun g hg hw => by simpa using hwB g (List.mem_range.1 hg) hw
  have hsz := exS_size h hn
  have hf : fewest (bysN S cells) S ≤ szX (exS (bysN S cells) k) := fewest_le (minX_mem (expN_pos _ _)) hn
  have hin : exS (bysN S cells) k ∈ expN (bysN S cells) S := by
    rw [← minsTo_all]
    unfold minsTo
    rw [List.mem_filter, decide_eq_true_eq]
    exact ⟨List.mem_map.2 ⟨k, List.mem_range.2 hn, rfl⟩, by omega⟩
  constructor
  · intro n hn1
    have hnx : n ∈ (exS (bysN S cells) k).1 := certain_sub hin n hn1
    have hS : S ≤ 8 := by simp only [okCells, Bool.and_eq_true, withinB, decide_eq_true_eq] at h; omega
    rw [exS_1 (by omega) hn] at hnx
    obtain ⟨s, hs, rfl⟩ := List.mem_map.1 hnx
    rw [List.mem_filter, List.mem_range] at hs
    have := hbit s hs.1
    rw [hs.2] at this
    simpa using this.symm
  · intro n hn1
    have hnx : n ∈ (exS (bysN S cells) k).2 := certain_sub hin n hn1
    rw [worn_len h] at hnx
    obtain ⟨g, hg, rfl⟩ := List.mem_map.1 hnx
    rw [List.mem_filter, List.mem_range, ← worn_bit h] at hg
    exact hwB g hg.1 hg.2
end Go.Sx
