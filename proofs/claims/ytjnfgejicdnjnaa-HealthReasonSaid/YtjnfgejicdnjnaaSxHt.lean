/- Orders: the plain law behind HealthReason. No conditions. -/
import Derived.Test.YtjnfgejicdnjnaaSxHm
import Derived.Test.YtjnfgejicdnjnaaSxHk
set_option linter.unusedSimpArgs false
set_option linter.unusedVariables false
set_option maxRecDepth 100000
namespace Go.Sx
open Go.Proofs

theorem cmp_neg (a b : Int) : cmpZ b a = - cmpZ a b := by unfold cmpZ; split <;> split <;> (try split) <;> omega
theorem gain_nil (v : Int) : gainZ [] v = 0 := rfl
theorem gain_cons (a : Int) (l : List Int) (v : Int) : gainZ (a :: l) v = cmpZ v a + gainZ l v := by simp [gainZ]
theorem gain_app (l m : List Int) (v : Int) : gainZ (l ++ m) v = gainZ l v + gainZ m v := by simp [gainZ, List.sum_append]
theorem gain_rev (l : List Int) (v : Int) : gainZ l.reverse v = gainZ l v := by
  induction l with
  | nil => rfl
  | cons a l ih => rw [List.reverse_cons, gain_app, ih, gain_cons, gain_cons, gain_nil]; omega
theorem trend_nil : trendZ [] = 0 := rfl
/-- An order's trend out of its first value. -/
def fall (l : List Int) (v : Int) : Int := - gainZ l v
theorem trend_cons_aux (v : Int) (x : List Int) : ∀ k, k ≤ x.length → trendZ (v :: x.take k) = trendZ (x.take k) + fall (x.take k) v
  | 0, _ => by simp [fall, gain_nil]; rw [show [v] = [] ++ [v] from rfl, trendZ_snoc]; rfl
  | k + 1, h => by
    have hk : k < x.length := by omega
    rw [List.take_succ_eq_append_getElem hk, ← List.cons_append, trendZ_snoc, trendZ_snoc, trend_cons_aux v x k (by omega), gain_cons]
    simp only [fall, gain_app, gain_cons, gain_nil]
    rw [cmp_neg v x[k]]; omega
theorem trend_cons (v : Int) (x : List Int) : trendZ (v :: x) = trendZ x - gainZ x v := by
  have := trend_cons_aux v x x.length (Nat.le_refl _)
  rw [List.take_of_length_le (Nat.le_refl _)] at this
  rw [this, fall]; omega
theorem trend_rev (l : List Int) : trendZ l.reverse = - trendZ l := by
  induction l with
  | nil => rfl
  | cons a l ih => rw [List.reverse_cons, trendZ_snoc, ih, gain_rev, trend_cons]; omega

/-! the full trend -/
def tri : Nat → Int
  | 0 => 0
  | n + 1 => tri n + n
theorem gain_full {l : List Int} {v : Int} (h : ∀ c ∈ l, c < v) : gainZ l v = l.length := by
  induction l with
  | nil => rfl
  | cons a l ih =>
    rw [gain_cons, ih fun c hc => h c (List.mem_cons_of_mem _ hc)]
    have := h a List.mem_cons_self
    have e : cmpZ v a = 1 := by unfold cmpZ; rw [if_neg (by omega), if_pos this]
    rw [e, List.length_cons]; omega
theorem gain_part {l : List Int} {v c : Int} (hc : c ∈ l) (h : v ≤ c) : gainZ l v < l.length := by
  induction l with
  | nil => simp at hc
  | cons a l ih =>
    rw [gain_cons, List.length_cons]
    have b1 := cmp_bound v a
    have b2 := gain_bound l v
    rcases List.mem_cons.1 hc with e | e
    · subst e
      have : cmpZ v c ≤ 0 := by unfold cmpZ; split <;> (try split) <;> omega
      omega
    · have := ih e; omega
theorem trend_le (l : List Int) : ∀ k, k ≤ l.length → trendZ (l.take k) ≤ tri k
  | 0, _ => by simp [tri, trend_nil]
  | k + 1, h => by
    have hk : k < l.length := by omega
    have b := gain_bound (l.take k) l[k]
    have ih := trend_le l k (by omega)
    have e : (l.take k).length = k := by simp; omega
    rw [List.take_succ_eq_append_getElem hk, trendZ_snoc, tri]; omega
theorem ord_zero (m : Nat) : ∀ (n : Nat) (ch left : List Int), n = ch.length → left.length = m → trendZ ch < tri n → (ordZ (tri (n + m)) m ch left).1 = 0 := by
  induction m with
  | zero =>
    intro n ch left hn hl ht
    simp only [ordZ, Nat.add_zero]
    rw [if_neg (by omega)]
  | succ m ih =>
    intro n ch left hn hl ht
    rw [ordZ_succ]
    have key : ∀ k, k ≤ left.length → (ordTo (tri (n + (m + 1))) m ch left k).1 = 0 := by
      intro k
      induction k with
      | zero => intro _; simp [ordTo]
      | succ k ihk =>
        intro hk
        rw [ordTo_succ]
        simp only
        have b := gain_bound ch (left.getD k 0)
        have := ih (n + 1) (ch ++ [left.getD k 0]) (left.take k ++ left.drop (k + 1)) (by simp; omega) (by simp; omega) (by rw [trendZ_snoc, tri]; omega)
        rw [show n + 1 + m = n + (m + 1) by omega] at this
        rw [ihk (by omega), this]; rfl
    exact key _ (Nat.le_refl _)
theorem ord_part (m : Nat) : ∀ (n : Nat) (ch left : List Int) (c e : Int), n = ch.length → left.length = m → trendZ ch ≤ tri n → c ∈ ch → e ∈ left → e ≤ c → (ordZ (tri (n + m)) m ch left).1 = 0 := by
  induction m with
  | zero =>
    intro n ch left c e hn hl ht hc he
    have : left = [] := List.length_eq_zero_iff.1 hl
    subst this; simp at he
  | succ m ih =>
    intro n ch left c e hn hl ht hc he hec
    rw [ordZ_succ]
    have key : ∀ k, k ≤ left.length → (ordTo (tri (n + (m + 1))) m ch left k).1 = 0 := by
      intro k
      induction k with
      | zero => intro _; simp [ordTo]
      | succ k ihk =>
        intro hk
        rw [ordTo_succ]
        simp only
        have hk' : k < left.length := by omega
        have ev : left.getD k 0 = left[k] := by simp [List.getD, List.getElem?_eq_getElem hk']
        have b := gain_bound ch left[k]
        have h0 : (ordZ (tri (n + (m + 1))) m (ch ++ [left.getD k 0]) (left.take k ++ left.drop (k + 1))).1 = 0 := by
          rw [ev, show n + (m + 1) = n + 1 + m by omega]
          by_cases hv : left[k] ≤ c
          · have := gain_part hc hv
            exact ord_zero m (n + 1) _ _ (by simp; omega) (by simp; omega) (by rw [trendZ_snoc, tri]; omega)
          · refine ih (n + 1) _ _ c e (by simp; omega) (by simp; omega) (by rw [trendZ_snoc, tri]; omega) (List.mem_append_left _ hc) ?_ hec
            have : left = left.take k ++ (left[k] :: left.drop (k + 1)) := by rw [← List.drop_eq_getElem_cons hk', List.take_append_drop]
            rw [this] at he
            rcases List.mem_append.1 he with h | h
            · exact List.mem_append_left _ h
            · rcases List.mem_cons.1 h with h | h
              · omega
              · exact List.mem_append_right _ h
        rw [ihk (by omega), h0]; rfl
    exact key _ (Nat.le_refl _)
def incS : List Int → Prop
  | [] => True
  | a :: l => (∀ b ∈ l, a < b) ∧ incS l
theorem ord_inc : ∀ (left : List Int) (n : Nat) (ch : List Int), n = ch.length → trendZ ch = tri n → incS left → (∀ c ∈ ch, ∀ e ∈ left, c < e) → (ordZ (tri (n + left.length)) left.length ch left).1 = 1
  | [], n, ch, hn, ht, _, _ => by simp [ordZ, ht]
  | a :: l, n, ch, hn, ht, hi, hc => by
    rw [List.length_cons, ordZ_succ]
    have ga := gain_full fun c h => hc c h a List.mem_cons_self
    have h1 := ord_inc l (n + 1) (ch ++ [a]) (by simp; omega) (by rw [trendZ_snoc, tri]; omega) hi.2 (fun c h e he => by
      rcases List.mem_append.1 h with h | h
      · exact hc c h e (List.mem_cons_of_mem _ he)
      · have : c = a := by simpa using h
        subst this; exact hi.1 e he)
    have key : ∀ k, k ≤ l.length → (ordTo (tri (n + (l.length + 1))) l.length ch (a :: l) (k + 1)).1 = 1 := by
      intro k
      induction k with
      | zero =>
        intro _
        rw [ordTo_succ, show n + (l.length + 1) = n + 1 + l.length by omega]
        simpa [ordTo] using h1
      | succ k ihk =>
        intro hk
        rw [ordTo_succ]
        simp only
        have hk' : k < l.length := by omega
        have ev : (a :: l).getD (k + 1) 0 = l[k] := by simp [List.getD, List.getElem?_eq_getElem hk']
        have hm : l[k] ∈ l := List.getElem_mem hk'
        have gv := gain_full fun c h => hc c h l[k] (List.mem_cons_of_mem _ hm)
        have h0 : (ordZ (tri (n + (l.length + 1))) l.length (ch ++ [(a :: l).getD (k + 1) 0]) ((a :: l).take (k + 1) ++ (a :: l).drop (k + 1 + 1))).1 = 0 := by
          rw [ev, show n + (l.length + 1) = n + 1 + l.length by omega]
          refine ord_part l.length (n + 1) _ _ l[k] a (by simp; omega) (by simp; omega) (by rw [trendZ_snoc, tri]; omega) (by simp) (by simp) ?_
          have := hi.1 _ hm; omega
        rw [ihk (by omega), h0]; rfl
    exact key _ (Nat.le_refl _)
theorem trend_inc : ∀ {l : List Int}, incS l → trendZ l = tri l.length
  | [], _ => rfl
  | a :: l, h => by
    have g : gainZ l a = -(l.length : Int) := by
      have : ∀ (m : List Int), (∀ b ∈ m, a < b) → gainZ m a = -(m.length : Int) := by
        intro m
        induction m with
        | nil => intro _; rfl
        | cons b m ih =>
          intro hb
          rw [gain_cons, ih fun c hc => hb c (List.mem_cons_of_mem _ hc)]
          have := hb b List.mem_cons_self
          have e : cmpZ a b = -1 := by unfold cmpZ; rw [if_pos this]
          rw [e, List.length_cons]; omega
      exact this l h.1
    rw [trend_cons, trend_inc h.2, g, List.length_cons, tri]; omega
theorem ch_inc {l : List Int} (h : incS l) : (chZ l).1 = 1 := by
  rw [chZ_eq, ordC, trend_inc h]
  have := ord_inc l 0 [] rfl rfl h (by simp)
  rwa [Nat.zero_add] at this

/-! one value -/
theorem gain_one {l : List Int} {v : Int} (h : ∀ c ∈ l, c = v) : gainZ l v = 0 := by
  induction l with
  | nil => rfl
  | cons a l ih =>
    rw [gain_cons, ih fun c hc => h c (List.mem_cons_of_mem _ hc), h a List.mem_cons_self]
    unfold cmpZ; rw [if_neg (by omega), if_neg (by omega)]; rfl
theorem trend_one {l : List Int} {v : Int} (h : ∀ c ∈ l, c = v) : trendZ l = 0 := by
  induction l with
  | nil => rfl
  | cons a l ih =>
    have hl : ∀ c ∈ l, c = v := fun c hc => h c (List.mem_cons_of_mem _ hc)
    rw [trend_cons, ih hl, h a List.mem_cons_self, gain_one hl]; rfl
theorem ord_one {v : Int} : ∀ (m : Nat) (ch left : List Int), left.length = m → (∀ c ∈ ch, c = v) → (∀ c ∈ left, c = v) → (ordZ 0 m ch left).1 = facN m
  | 0, ch, left, _, hc, _ => by simp [ordZ, trend_one hc, facN]
  | m + 1, ch, left, hl, hc, he => by
    rw [ordZ_succ]
    have key : ∀ k, k ≤ left.length → (ordTo 0 m ch left k).1 = k * facN m := by
      intro k
      induction k with
      | zero => intro _; simp [ordTo]
      | succ k ihk =>
        intro hk
        have hk' : k < left.length := by omega
        have ev : left.getD k 0 = left[k] := by simp [List.getD, List.getElem?_eq_getElem hk']
        rw [ordTo_succ]
        simp only
        rw [ihk (by omega), ev, ord_one m (ch ++ [left[k]]) (left.take k ++ left.drop (k + 1)) (by simp; omega)]
        · rw [show ((k + 1 : Nat) : Int) = (k : Int) + 1 by omega, Int.add_mul, Int.one_mul]
        · intro c hcc
          rcases List.mem_append.1 hcc with h | h
          · exact hc c h
          · have : c = left[k] := by simpa using h
            rw [this]; exact he _ (List.getElem_mem hk')
        · intro c hcc
          rcases List.mem_append.1 hcc with h | h
          · exact he c (List.mem_of_mem_take h)
          · exact he c (List.mem_of_mem_drop h)
    rw [key _ (Nat.le_refl _), hl, facN]; simp
theorem ch_one {l : List Int} {v : Int} (h : ∀ c ∈ l, c = v) : (chZ l).1 = facN l.length := by
  rw [chZ_eq, ordC, trend_one h]
  exact ord_one l.length [] l rfl (by simp) h

/-! at least one order -/
theorem ord_pos (least : Int) : ∀ (left ch : List Int), least ≤ trendZ (ch ++ left) → 1 ≤ (ordZ least left.length ch left).1
  | [], ch, h => by
    rw [List.append_nil] at h
    simp only [List.length_nil, ordZ]
    rw [if_pos h]; exact Int.le_refl _
  | a :: l, ch, h => by
    rw [List.length_cons, ordZ_succ]
    have h1 := ord_pos least l (ch ++ [a]) (by simpa using h)
    have key : ∀ k, k ≤ l.length → 1 ≤ (ordTo least l.length ch (a :: l) (k + 1)).1 := by
      intro k
      induction k with
      | zero => intro _; rw [ordTo_succ]; simpa [ordTo] using h1
      | succ k ihk =>
        intro hk
        have := ihk (by omega)
        have g := (ord_inv least l.length (ch ++ [(a :: l).getD (k + 1) 0]) ((a :: l).take (k + 1) ++ (a :: l).drop (k + 1 + 1)) (by simp; omega)).2.1
        rw [ordTo_succ]
        simp only
        omega
    exact key _ (Nat.le_refl _)
theorem ch_pos (l : List Int) : 1 ≤ (chZ l).1 := by
  rw [chZ_eq, ordC]
  exact ord_pos _ l [] (Int.le_refl _)

/-! lowest terms -/
theorem low_law {c f : Int} (h1 : 1 ≤ c) (h2 : c ≤ f) : 1 ≤ lowN c f ∧ 1 ≤ lowD c f ∧ lowN c f ≤ lowD c f ∧ f.tmod (lowD c f) = 0 ∧ lowD c f ≤ f := by
  obtain ⟨f1, f2, f3⟩ := low_facts (num := c) (den := f) (by omega) (by omega)
  obtain ⟨g1, g2, g3, g4⟩ := lowN_le (num := c) (den := f) (by omega) (by omega)
  generalize lowN c f = x at *
  generalize lowD c f = y at *
  generalize (Int.gcd c f : Int) = g at *
  have hx : x ≠ 0 := by rintro rfl; omega
  have hy : y ≠ 0 := by rintro rfl; omega
  refine ⟨by omega, by omega, ?_, ?_, g4⟩
  · subst f1 f2
    exact Int.le_of_mul_le_mul_right h2 f3
  · subst f2
    exact Int.mul_tmod_right y g
theorem low_one {f : Int} (h : 1 ≤ f) : lowN 1 f = 1 ∧ lowD 1 f = f := by
  have : Int.gcd 1 f = 1 := by simp [Int.gcd]
  simp [lowN, lowD, this]
theorem low_all {f : Int} (h : 1 ≤ f) : lowN f f = 1 ∧ lowD f f = 1 := by
  have : (Int.gcd f f : Int) = f := by rw [Int.gcd_self]; omega
  simp only [lowN, lowD, this]
  exact ⟨Int.tdiv_self (by omega), Int.tdiv_self (by omega)⟩
end Go.Sx
namespace Go.Sx
def bi (l : List Int) (k : Nat) : Nat := l.length - 1 - k
def backTo (l : List Int) (k : Nat) : List Int := (List.range k).map fun i => l.getD (bi l i) 0
theorem backTo_succ (l : List Int) (k : Nat) : backTo l (k + 1) = backTo l k ++ [l.getD (bi l k) 0] := by simp [backTo, List.range_succ]
theorem backTo_len (l : List Int) (k : Nat) : (backTo l k).length = k := by simp [backTo]
theorem backTo_all (l : List Int) : backTo l l.length = l.reverse := by
  refine List.ext_getElem (by simp [backTo]) fun i h1 h2 => ?_
  have h : i < l.length := by simpa [backTo] using h1
  simp only [backTo, List.getElem_map, List.getElem_range, bi, List.getElem_reverse]
  have : l.length - 1 - i < l.length := by omega
  simp [List.getD, List.getElem?_eq_getElem this]
def incB (l : List Int) : Nat → Bool
  | 0 => true
  | k + 1 => incB l k && (k == 0 || decide (l.getD k 0 > l.getD (k - 1) 0))
def oneB (l : List Int) : Nat → Bool
  | 0 => true
  | k + 1 => oneB l k && (l.getD k 0 == l.getD 0 0)
theorem incB_at (l : List Int) : ∀ k, incB l k = true → ∀ i, i + 1 < k → l.getD i 0 < l.getD (i + 1) 0
  | 0, _, i, hi => by omega
  | k + 1, h, i, hi => by
    simp only [incB, Bool.and_eq_true, Bool.or_eq_true, beq_iff_eq, decide_eq_true_eq] at h
    by_cases e : i + 1 = k
    · subst e
      rcases h.2 with h2 | h2
      · omega
      · exact h2
    · exact incB_at l k h.1 i (by omega)
theorem oneB_at (l : List Int) : ∀ k, oneB l k = true → ∀ i, i < k → l.getD i 0 = l.getD 0 0
  | 0, _, i, hi => by omega
  | k + 1, h, i, hi => by
    simp only [oneB, Bool.and_eq_true, beq_iff_eq] at h
    by_cases e : i = k
    · subst e; exact h.2
    · exact oneB_at l k h.1 i (by omega)
theorem inc_of : ∀ {l : List Int}, (∀ i, i + 1 < l.length → l.getD i 0 < l.getD (i + 1) 0) → incS l
  | [], _ => trivial
  | a :: l, h => by
    have ht : incS l := inc_of fun i hi => by
      have := h (i + 1) (by simp; omega)
      simpa [List.getD] using this
    refine ⟨?_, ht⟩
    match l, ht with
    | [], _ => simp
    | b :: m, hm =>
      have h0 : a < b := by simpa [List.getD] using h 0 (by simp)
      intro c hc
      rcases List.mem_cons.1 hc with e | e
      · subst e; exact h0
      · have := hm.1 c e; omega
theorem inc_law {l : List Int} (h : incB l l.length = true) : (chZ l).1 = 1 := ch_inc (inc_of (incB_at l _ h))
theorem one_law {l : List Int} (h : oneB l l.length = true) : (chZ l).1 = facN l.length := by
  refine ch_one (v := l.getD 0 0) fun c hc => ?_
  obtain ⟨i, hi, rfl⟩ := List.mem_iff_getElem.1 hc
  have := oneB_at l _ h i hi
  simpa [List.getD, List.getElem?_eq_getElem hi] using this
theorem tri_le : ∀ {n : Nat}, n ≤ 8 → 0 ≤ tri n ∧ tri n ≤ 28 := by
  intro n h
  match n, h with
  | 0, _ | 1, _ | 2, _ | 3, _ | 4, _ | 5, _ | 6, _ | 7, _ | 8, _ => simp [tri]
theorem valid_back {l : List Int} (h : validB l = true) : validB (backTo l l.length) = true := by
  rw [backTo_all]
  simp only [validB, Bool.and_eq_true, List.length_reverse, allB, List.all_reverse] at h ⊢
  exact h
theorem trend_small {l : List Int} (h : l.length ≤ 8) : -28 ≤ trendZ l ∧ trendZ l ≤ 28 := by
  have t := tri_le h
  have h1 := trend_le l l.length (Nat.le_refl _)
  have h2 := trend_le l.reverse l.length (by simp)
  rw [List.take_of_length_le (Nat.le_refl _)] at h1
  rw [List.take_of_length_le (by simp), trend_rev] at h2
  omega
/-- What the law asks of a chance. -/
theorem reason_facts {l : List Int} (h : validB l = true) : ∃ (bk : List Int) (s n d : Int) (f : Nat), backTo l l.length = bk ∧ bk.length = l.length ∧ trendZ l = s ∧ -28 ≤ s ∧ s ≤ 28 ∧ validB bk = true ∧ trendZ bk = -s ∧ facN l.length = f ∧ 1 ≤ f ∧ f ≤ 40320 ∧
    lowN (chZ l).1 (chZ l).2 = n ∧ lowD (chZ l).1 (chZ l).2 = d ∧ 1 ≤ n ∧ 1 ≤ d ∧ n ≤ d ∧ d ≤ f ∧ (f : Int).tmod d = 0 ∧ (incB l l.length = true → n = 1 ∧ d = f) ∧ (oneB l l.length = true → n = 1 ∧ d = 1) := by
  have hl := valid_len h
  obtain ⟨c1, c2, c3⟩ := chZ_bound l
  have c4 := ch_pos l
  have hf := facN_pos l.length
  obtain ⟨g1, g2, g3, g4, g5⟩ := low_law (c := (chZ l).1) (f := facN l.length) c4 c2
  have ts := trend_small hl.2
  refine ⟨_, _, _, _, _, rfl, backTo_len _ _, rfl, ts.1, ts.2, valid_back h, ?_, rfl, hf, fac8 hl.2, rfl, rfl, ?_, ?_, ?_, ?_, ?_, ?_, ?_⟩
  · rw [backTo_all, trend_rev]
  all_goals rw [c3]
  · exact g1
  · exact g2
  · exact g3
  · exact g5
  · exact g4
  · intro hi
    rw [inc_law hi]
    exact low_one (by omega)
  · intro hi
    rw [one_law hi]
    exact low_all (by omega)
theorem idx_cases {p : Nat → Bool} {n k : Nat} (hk : k < n) : (p k = true ∧ idxP p n = k) ∨ (p k = true ∧ 0 ≤ idxP p n ∧ idxP p n < k) ∨ (p k = false ∧ idxP p n ≠ k) := by
  by_cases h : ∃ j, j < n ∧ p j = true
  · have : ∃ j, (j < n ∧ p j = true) ∧ ∀ i, i < j → p i = false := by
      obtain ⟨j, hj1, hj2⟩ := h
      induction j using Nat.strongRecOn with
      | _ j ih =>
        by_cases h2 : ∃ i, i < j ∧ p i = true
        · obtain ⟨i, h3, h4⟩ := h2
          exact ih i h3 (by omega) h4
        · refine ⟨j, ⟨hj1, hj2⟩, fun i hi => ?_⟩
          cases e : p i with
          | false => rfl
          | true => exact absurd ⟨i, hi, e⟩ h2
    obtain ⟨j, ⟨hj1, hj2⟩, hj3⟩ := this
    rw [idxP_at hj1 hj2 hj3]
    cases e : p k with
    | false =>
      refine .inr (.inr ⟨rfl, ?_⟩)
      intro he
      have : j = k := by omega
      subst this; rw [e] at hj2; cases hj2
    | true =>
      by_cases hkj : k < j
      · have := hj3 k hkj; rw [e] at this; cases this
      · by_cases e2 : j = k
        · exact .inl ⟨rfl, by omega⟩
        · exact .inr (.inl ⟨rfl, by omega, by omega⟩)
  · have hn : ∀ j, j < n → p j = false := fun j hj => by
      cases e : p j with
      | false => rfl
      | true => exact absurd ⟨j, hj, e⟩ h
    rw [idxP_none hn]
    exact .inr (.inr ⟨hn k hk, by omega⟩)
theorem idx_bound (p : Nat → Bool) (n : Nat) : -1 ≤ idxP p n ∧ (0 < n → idxP p n < n) := by
  unfold idxP
  split
  · rename_i i h
    have := List.mem_range.1 (List.mem_of_find?_eq_some h)
    exact ⟨by omega, fun _ => by omega⟩
  · exact ⟨by omega, fun _ => by omega⟩
theorem win_pre {l : List Int} {k : Nat} (h : k ≤ 7) : List.take (k + 1) (l.map ri) = (win l k).map ri := by
  have : k - 7 = 0 := by omega
  rw [win, this, List.drop_zero, Nat.sub_zero, List.map_take]
end Go.Sx
