/- HealthProof: as many pairs as the fewest sensors and gears that explain all cells, in plain Lean. No conditions. -/
import Derived.Test.YtjnfgejicdnjnaaSxIh
set_option linter.unusedSimpArgs false
set_option linter.unusedVariables false
set_option maxRecDepth 100000
namespace Go.Sx

theorem nodup_sub {α : Type} [DecidableEq α] : ∀ (l m : List α), l.Nodup → (∀ x ∈ l, x ∈ m) → l.length ≤ m.length
  | [], m, _, _ => Nat.zero_le _
  | a :: l, m, hn, hs => by
    rw [List.nodup_cons] at hn
    have ha := hs a (by simp)
    have h1 := nodup_sub l (m.erase a) hn.2 (fun x hx => (List.mem_erase_of_ne (by rintro rfl; exact hn.1 hx)).2 (hs x (by simp [hx])))
    rw [List.length_erase_of_mem ha] at h1
    have : 0 < m.length := List.length_pos_of_mem ha
    simp only [List.length_cons]; omega
/-- An injection bounds a count. -/
theorem count_inj {G K : Nat} {p q : Nat → Bool} (f : Nat → Nat) (h1 : ∀ g, g < G → p g = true → f g < K ∧ q (f g) = true) (h2 : ∀ g g', g < G → g' < G → p g = true → p g' = true → f g = f g' → g = g') :
    (List.range G).countP p ≤ (List.range K).countP q := by
  rw [List.countP_eq_length_filter, List.countP_eq_length_filter]
  have hn : (((List.range G).filter p).map f).Nodup := by
    unfold List.Nodup
    rw [List.pairwise_map]
    have := List.Pairwise.filter p (List.nodup_range (n := G))
    refine List.Pairwise.imp_of_mem (fun {a b} ha hb hab e => hab ?_) this
    rw [List.mem_filter, List.mem_range] at ha hb
    exact h2 a b ha.1 hb.1 ha.2 hb.2 e
  have := nodup_sub _ ((List.range K).filter q) hn (fun x hx => by
    obtain ⟨g, hg, rfl⟩ := List.mem_map.1 hx
    rw [List.mem_filter, List.mem_range] at hg
    rw [List.mem_filter, List.mem_range]
    exact h1 g hg.1 hg.2)
  simpa using this
theorem countP_split (l : List Nat) (p q : Nat → Bool) : l.countP p = l.countP (fun x => p x && q x) + l.countP fun x => p x && !q x := by
  induction l with
  | nil => rfl
  | cons a l ih =>
    simp only [List.countP_cons, ih]
    cases p a <;> cases q a <;> simp <;> omega
theorem countP_or (l : List Nat) (p q : Nat → Bool) : l.countP (fun x => p x || q x) = l.countP p + l.countP fun x => q x && !p x := by
  induction l with
  | nil => rfl
  | cons a l ih =>
    simp only [List.countP_cons, ih]
    cases p a <;> cases q a <;> simp <;> omega
def pairsN (o : List Int) : Nat := o.countP fun x => decide (0 ≤ x)
theorem countP_range (o : List Int) (p : Int → Bool) : o.countP p = (List.range o.length).countP fun i => p (o.getD i 0) := by
  have : o = (List.range o.length).map fun i => o.getD i 0 := by
    apply List.ext_getElem
    · simp
    · intro i h1 h2; simp [List.getD, List.getElem?_eq_getElem h1]
  conv => lhs; rw [this]
  rw [List.countP_map]; rfl
theorem twice {o : List Int} {g g' : Nat} (hg : g < o.length) (hg' : g' < o.length) (hne : g ≠ g') (h : o.getD g 0 = o.getD g' 0) : 2 ≤ o.count (o.getD g 0) := by
  have h1 : o.count (o.getD g 0) = (List.range o.length).countP fun i => o.getD i 0 == o.getD g 0 := countP_range o _
  rw [h1]
  have : [g, g'].length ≤ ((List.range o.length).filter fun i => o.getD i 0 == o.getD g 0).length := by
    refine nodup_sub _ _ ?_ ?_
    · simp [hne]
    · intro x hx
      rw [List.mem_filter, List.mem_range]
      simp only [List.mem_cons, List.not_mem_nil, or_false] at hx
      rcases hx with rfl | rfl
      · exact ⟨hg, by simp⟩
      · exact ⟨hg', by rw [← h]; simp⟩
  rw [List.countP_eq_length_filter]
  exact this
theorem pairs_more {l m : List Int} {s : Int} (hs : 0 ≤ s) (h : ∀ y : Int, 0 ≤ y → m.count y = l.count y + if s = y then 1 else 0) : pairsN m = pairsN l + 1 := by
  have hp : List.Perm (m.filter fun x => decide (0 ≤ x)) (s :: l.filter fun x => decide (0 ≤ x)) := by
    rw [List.perm_iff_count]
    intro y
    rw [List.count_cons]
    by_cases hy : 0 ≤ y
    · rw [List.count_filter (by simpa using hy), List.count_filter (by simpa using hy), h y hy]
      by_cases e : s = y <;> simp [e]
    · have z : ∀ k : List Int, (k.filter fun x => decide (0 ≤ x)).count y = 0 := fun k => by
        rw [List.count_eq_zero, List.mem_filter]; simp [hy]
      rw [z, z, if_neg]
      simp only [beq_iff_eq]
      omega
  have := hp.length_eq
  unfold pairsN
  rw [List.countP_eq_length_filter, List.countP_eq_length_filter, this]; rfl
def proofTo (b : List Nat) (G k : Nat) : List Int := (List.range k).foldl (fun o s => (find b 13 s o 0).2.1) (List.replicate G (-1))
theorem proofTo_succ (b : List Nat) (G k : Nat) : proofTo b G (k + 1) = (find b 13 k (proofTo b G k) 0).2.1 := by
  simp [proofTo, List.range_succ]
/-- Sensors and gears that explain all cells of the first k sensors. -/
def Covers (b : List Nat) (G k : Nat) (L W : Nat → Bool) : Prop := ∀ s, s < k → ∀ g, g < G → (b.getD s 0).testBit g = true → L s = true ∨ W g = true
structure Koenig (b : List Nat) (G k : Nat) (o : List Int) : Prop where
  pairs : Pairs b G o
  once : ∀ y : Int, 0 ≤ y → o.count y ≤ 1
  none : ∀ y : Int, (k : Int) ≤ y → o.count y = 0
  cover : ∃ L W, Covers b G k L W ∧ (List.range k).countP L + (List.range G).countP W ≤ pairsN o
theorem Koenig.lt {b : List Nat} {G k : Nat} {o : List Int} (h : Koenig b G k o) {g : Nat} (hg : g < G) (h0 : 0 ≤ o.getD g 0) : (o.getD g 0).toNat < k := by
  have hl := h.pairs.len
  have hm : o.getD g 0 ∈ o := by rw [gi (by omega : g < o.length)]; exact List.getElem_mem _
  by_cases e : (k : Int) ≤ o.getD g 0
  · have := h.none _ e
    rw [List.count_eq_zero] at this
    exact absurd hm this
  · omega
theorem Koenig.inj {b : List Nat} {G k : Nat} {o : List Int} (h : Koenig b G k o) {g g' : Nat} (hg : g < G) (hg' : g' < G) (h0 : 0 ≤ o.getD g 0) (h1 : 0 ≤ o.getD g' 0) (e : (o.getD g 0).toNat = (o.getD g' 0).toNat) : g = g' := by
  have hl := h.pairs.len
  by_cases hne : g = g'
  · exact hne
  · have := twice (o := o) (by omega) (by omega) hne (by omega)
    have := h.once _ h0
    omega
theorem untried_zero (G : Nat) : untried G 0 = G := by
  unfold untried
  rw [List.countP_eq_length.2 (fun a _ => by simp)]; simp
theorem koenig {b : List Nat} {G : Nat} (hG : G ≤ 12) (hb : ∀ x ∈ b, x < 2 ^ G) : ∀ k, k ≤ b.length → Koenig b G k (proofTo b G k)
  | 0, _ => by
    have e : ∀ g, (List.replicate G (-1 : Int)).getD g 0 = if g < G then -1 else 0 := fun g => by
      simp only [List.getD, List.getElem?_replicate]; split <;> rfl
    refine ⟨⟨by simp [proofTo], fun g hg => ?_, fun g hg h0 => ?_⟩, fun y hy => ?_, fun y hy => ?_, fun _ => false, fun _ => false, fun s hs => by omega, by simp⟩
    · show -1 ≤ (List.replicate G (-1 : Int)).getD g 0
      rw [e, if_pos hg]; omega
    · have h0 : 0 ≤ (List.replicate G (-1 : Int)).getD g 0 := h0
      rw [e, if_pos hg] at h0; omega
    · have : (List.replicate G (-1 : Int)).count y = 0 := by rw [List.count_eq_zero, List.mem_replicate]; omega
      show (List.replicate G (-1 : Int)).count y ≤ 1
      omega
    · show (List.replicate G (-1 : Int)).count y = 0
      rw [List.count_eq_zero, List.mem_replicate]; omega
  | k + 1, hk => by
    have hK := koenig hG hb k (by omega)
    have hkb : k < b.length := hk
    obtain ⟨hF, hN⟩ := find_spec (G := G) (by omega) hb 13 k (proofTo b G k) 0 (by rw [untried_zero]; omega) hkb hK.pairs
    rw [proofTo_succ]
    generalize proofTo b G k = o at *
    generalize find b 13 k o 0 = x at *
    obtain ⟨x1, xo, xt⟩ := x
    obtain ⟨L, W, hcov, hcnt⟩ := hK.cover
    have hl := hK.pairs.len
    cases x1 with
    | true =>
      obtain ⟨y1, y2, y3⟩ := hF.yes rfl
      simp only at y1 y2 y3
      have hz := hK.none (k : Int) (Int.le_refl _)
      refine ⟨y1, fun y hy => ?_, fun y hy => ?_, fun s => decide (s = k) || L s, W, fun s hs g hg he => ?_, ?_⟩
      · rw [y3 y hy]
        have h1 := hK.once y hy
        split
        · rename_i e; subst e; omega
        · omega
      · rw [y3 y (by omega), hK.none y (by omega), if_neg (by omega)]
      · by_cases e : s = k
        · exact .inl (by simp [e])
        · rcases hcov s (by omega) g hg he with h | h
          · exact .inl (by simp [h])
          · exact .inr h
      · have h1 := pairs_more (by omega : (0 : Int) ≤ (k : Int)) y3
        simp only
        rw [h1, List.range_succ, List.countP_append]
        have h2 : (List.range k).countP (fun s => decide (s = k) || L s) = (List.range k).countP L := by
          refine List.countP_congr fun s hs => ?_
          have := List.mem_range.1 hs
          simp only [show decide (s = k) = false by simp; omega, Bool.false_or]
        rw [h2]
        simp
        omega
    | false =>
      obtain ⟨n1, n2⟩ := hF.no rfl
      have hN := hN rfl
      simp only at n1 n2 hN ⊢
      subst n1
      have hT : ∀ g, g < G → xt.testBit g = true → 0 ≤ xo.getD g 0 ∧ sub2 (b.getD (xo.getD g 0).toNat 0) xt := fun g hg ht => by
        rcases n2 g hg ht with h | h
        · simp at h
        · exact h
      let Z : Nat → Bool := fun s => (List.range G).any fun g => xt.testBit g && decide ((xo.getD g 0).toNat = s)
      have hZ : ∀ s, Z s = true ↔ ∃ g, g < G ∧ xt.testBit g = true ∧ (xo.getD g 0).toNat = s := fun s => by
        simp only [Z, List.any_eq_true, List.mem_range, Bool.and_eq_true, decide_eq_true_eq]
      refine ⟨hK.pairs, hK.once, fun y hy => hK.none y (by omega), fun s => decide (s ≠ k) && (L s && !Z s), fun g => W g || xt.testBit g, fun s hs g hg he => ?_, ?_⟩
      · by_cases e : s = k
        · subst e
          exact .inr (by simp [hN g he])
        · cases hz : Z s with
          | true =>
            obtain ⟨g1, h1, h2, h3⟩ := (hZ s).1 hz
            subst h3
            exact .inr (by simp [(hT g1 h1 h2).2 g he])
          | false =>
            rcases hcov s (by omega) g hg he with h | h
            · exact .inl (by simp [h, e, hz])
            · exact .inr (by simp [h])
      · have h2 : (List.range (k + 1)).countP (fun s => decide (s ≠ k) && (L s && !Z s)) = (List.range k).countP (fun s => L s && !Z s) := by
          rw [List.range_succ, List.countP_append]
          have : (List.range k).countP (fun s => decide (s ≠ k) && (L s && !Z s)) = (List.range k).countP (fun s => L s && !Z s) := by
            refine List.countP_congr fun s hs => ?_
            have := List.mem_range.1 hs
            simp only [show decide (s ≠ k) = true by simp; omega, Bool.true_and]
          rw [this]; simp
        have h3 := countP_split (List.range k) L Z
        have h4 := countP_or (List.range G) W (fun g => xt.testBit g)
        have h5 : (List.range G).countP (fun g => xt.testBit g && !W g) ≤ (List.range k).countP (fun s => L s && Z s) := by
          refine count_inj (fun g => (xo.getD g 0).toNat) (fun g hg hp => ?_) (fun g g' hg hg' hp hp' e => ?_)
          · simp only [Bool.and_eq_true, Bool.not_eq_true'] at hp
            obtain ⟨h6, h7⟩ := hT g hg hp.1
            have h8 := hK.lt hg h6
            refine ⟨h8, ?_⟩
            have h9 := (hK.pairs.edge g hg h6).2
            rcases hcov _ h8 g hg h9 with h | h
            · rw [h, (hZ _).2 ⟨g, hg, hp.1, rfl⟩]; rfl
            · rw [h] at hp; cases hp.2
          · simp only [Bool.and_eq_true, Bool.not_eq_true'] at hp hp'
            exact hK.inj hg hg' (hT g hg hp.1).1 (hT g' hg' hp'.1).1 e
        rw [h2, h4]
        omega
/-- No explanation is smaller than the pairs are many. -/
theorem weak {b : List Nat} {G k : Nat} {o : List Int} (hK : Koenig b G k o) {L W : Nat → Bool} (hc : Covers b G k L W) : pairsN o ≤ (List.range k).countP L + (List.range G).countP W := by
  have hl := hK.pairs.len
  unfold pairsN
  rw [countP_range, hl, countP_split _ _ W]
  have h1 : (List.range G).countP (fun g => decide (0 ≤ o.getD g 0) && W g) ≤ (List.range G).countP W := List.countP_mono_left fun g _ h => by
    simp only [Bool.and_eq_true] at h; exact h.2
  have h2 : (List.range G).countP (fun g => decide (0 ≤ o.getD g 0) && !W g) ≤ (List.range k).countP L := by
    refine count_inj (fun g => (o.getD g 0).toNat) (fun g hg hp => ?_) (fun g g' hg hg' hp hp' e => ?_)
    · simp only [Bool.and_eq_true, Bool.not_eq_true', decide_eq_true_eq] at hp
      have h8 := hK.lt hg hp.1
      refine ⟨h8, ?_⟩
      rcases hc _ h8 g hg (hK.pairs.edge g hg hp.1).2 with h | h
      · exact h
      · rw [h] at hp; cases hp.2
    · simp only [Bool.and_eq_true, Bool.not_eq_true', decide_eq_true_eq] at hp hp'
      exact hK.inj hg hg' hp.1 hp'.1 e
  omega
def bitsOf (L : Nat → Bool) : Nat → Nat
  | 0 => 0
  | k + 1 => orN (bitsOf L k) (if L k then 2 ^ k else 0)
theorem bitsOf_bit (L : Nat → Bool) : ∀ k i, (bitsOf L k).testBit i = (decide (i < k) && L i)
  | 0, i => by simp [bitsOf]
  | k + 1, i => by
    unfold bitsOf orN
    rw [Nat.testBit_or, bitsOf_bit L k i]
    by_cases e : i = k
    · subst e
      cases h : L i <;> simp [Nat.testBit_two_pow]
    · have : (if L k = true then 2 ^ k else 0 : Nat).testBit i = false := by
        split
        · rw [Nat.testBit_two_pow]; simp; omega
        · simp
      rw [this, Bool.or_false]
      by_cases h2 : i < k
      · simp [h2, Nat.lt_succ_of_lt h2]
      · have : ¬ i < k + 1 := by omega
        simp [h2, this]
theorem bitsOf_lt (L : Nat → Bool) : ∀ k, bitsOf L k < 2 ^ k
  | 0 => by simp [bitsOf]
  | k + 1 => by
    unfold bitsOf orN
    have := bitsOf_lt L k
    have h2 : 2 ^ k < 2 ^ (k + 1) := Nat.pow_lt_pow_right (by decide) (by omega)
    refine Nat.or_lt_two_pow (by omega) ?_
    split
    · exact h2
    · omega
theorem memN_count {k S : Nat} (hS : S ≤ 62) (hk : k < 2 ^ S) : (memN k).length = (List.range S).countP fun i => k.testBit i := by
  rw [memN_lt hS hk, memTo, List.countP_eq_length_filter]
theorem worn_count {S G : Nat} {cells : List (Int × Int)} (h : okCells S G cells = true) (k : Nat) : (memN (wornN (bysN S cells) k)).length = (List.range G).countP fun g => (wornN (bysN S cells) k).testBit g := by
  have hg : G ≤ 12 := by simp only [okCells, Bool.and_eq_true, withinB, decide_eq_true_eq] at h; omega
  rw [show memN (wornN (bysN S cells) k) = memTo (wornN (bysN S cells) k) G from memTo_hi (fun i hi => worn_hi h k i (by simpa using hi)) (by omega), memTo, List.countP_eq_length_filter]
theorem exS_size {S G : Nat} {cells : List (Int × Int)} (h : okCells S G cells = true) {k : Nat} (hk : k < 2 ^ S) : szX (exS (bysN S cells) k) = (List.range S).countP (fun i => k.testBit i) + (List.range G).countP fun g => (wornN (bysN S cells) k).testBit g := by
  have hs : S ≤ 8 := by simp only [okCells, Bool.and_eq_true, withinB, decide_eq_true_eq] at h; omega
  unfold szX
  simp only [exS, natI_length]
  rw [memN_count (by omega) hk, worn_count h]
theorem worn_iff {S G : Nat} {cells : List (Int × Int)} (h : okCells S G cells = true) (k g : Nat) : (wornN (bysN S cells) k).testBit g = true ↔ ∃ s, s < S ∧ k.testBit s = false ∧ ((bysN S cells).getD s 0).testBit g = true := by
  have hl : (bysN S cells).length = S := by rw [bysN, bysTo_length]; simp
  unfold wornN
  rw [wornTo_bit, hl, List.any_eq_true]
  simp only [List.mem_range, Bool.and_eq_true, Bool.not_eq_true']
theorem exS_covers {S G : Nat} {cells : List (Int × Int)} (h : okCells S G cells = true) (k : Nat) : Covers (bysN S cells) G S (fun i => k.testBit i) (fun g => (wornN (bysN S cells) k).testBit g) := by
  intro s hs g hg he
  cases hb : k.testBit s with
  | true => exact .inl hb
  | false => exact .inr ((worn_iff h k g).2 ⟨s, hs, hb, he⟩)
def proofO (S G : Nat) (cells : List (Int × Int)) : List Int := proofTo (bysN S cells) G S
theorem proof_koenig {S G : Nat} {cells : List (Int × Int)} (h : okCells S G cells = true) : Koenig (bysN S cells) G S (proofO S G cells) := by
  have hg : G ≤ 12 := by simp only [okCells, Bool.and_eq_true, withinB, decide_eq_true_eq] at h; omega
  have hl : (bysN S cells).length = S := by rw [bysN, bysTo_length]; simp
  refine koenig hg (fun x hx => ?_) S (by omega)
  obtain ⟨s, hs, rfl⟩ := List.getElem_of_mem hx
  refine Nat.lt_pow_two_of_testBit _ fun i hi => ?_
  have hb := bysTo_bit S cells s i (by simp; omega) _ (Nat.le_refl _)
  have e : (bysN S cells).getD s 0 = (bysN S cells)[s] := by simp only [List.getD, List.getElem?_eq_getElem hs, Option.getD_some]
  rw [show bysTo S cells cells.length = bysN S cells from rfl, e] at hb
  rw [hb, List.any_eq_false]
  intro c hc
  have := ok_cell h c (List.mem_of_mem_take hc)
  simp only [Bool.and_eq_true, decide_eq_true_eq]
  omega
theorem proof_many {S G : Nat} {cells : List (Int × Int)} (h : okCells S G cells = true) : pairsN (proofO S G cells) = fewest (bysN S cells) S := by
  have hK := proof_koenig h
  have hp := expN_pos (bysN S cells) S
  obtain ⟨k, hk, he⟩ := expN_at (minX_mem hp)
  apply Nat.le_antisymm
  · unfold fewest
    rw [he, exS_size h hk]
    exact weak hK (exS_covers h k)
  · obtain ⟨L, W, hc, hle⟩ := hK.cover
    have hn := bitsOf_lt L S
    have h1 : fewest (bysN S cells) S ≤ szX (exS (bysN S cells) (bitsOf L S)) := fewest_le (minX_mem hp) hn
    rw [exS_size h hn] at h1
    have h2 : (List.range S).countP (fun i => (bitsOf L S).testBit i) = (List.range S).countP L := by
      refine List.countP_congr fun i hi => ?_
      rw [bitsOf_bit]; simp [List.mem_range.1 hi]
    have h3 : (List.range G).countP (fun g => (wornN (bysN S cells) (bitsOf L S)).testBit g) ≤ (List.range G).countP W := by
      refine List.countP_mono_left fun g hg hw => ?_
      obtain ⟨s, hs, hb, he⟩ := (worn_iff h _ g).1 hw
      rw [bitsOf_bit] at hb
      simp only [hs, decide_true, Bool.true_and] at hb
      rcases hc s hs g (List.mem_range.1 hg) he with h | h
      · rw [hb] at h; cases h
      · exact h
    omega
end Go.Sx
