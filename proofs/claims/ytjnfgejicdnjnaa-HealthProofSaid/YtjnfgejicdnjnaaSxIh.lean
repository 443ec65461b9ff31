/- HealthProof: the search for a further pair, in plain Lean. No conditions. -/
import Derived.Test.YtjnfgejicdnjnaaSxIf
set_option linter.unusedSimpArgs false
set_option linter.unusedVariables false
set_option maxRecDepth 100000
namespace Go.Sx

def anN (a b : Nat) : Nat := a ^^^ (a &&& b)
theorem anN_bit (a b i : Nat) : (anN a b).testBit i = (a.testBit i && !b.testBit i) := by
  unfold anN
  rw [Nat.testBit_xor, Nat.testBit_and]
  cases a.testBit i <;> cases b.testBit i <;> rfl
def findL (find : Nat → List Int → Nat → Bool × List Int × Nat) (s : Nat) : List Nat → List Int → Nat → Bool × List Int × Nat
  | [], o, t => (false, o, t)
  | g :: r, o, t =>
    if o.getD g 0 < 0 then (true, o.set g s, orN t (2 ^ g))
    else if (find (o.getD g 0).toNat o (orN t (2 ^ g))).1 then (true, (find (o.getD g 0).toNat o (orN t (2 ^ g))).2.1.set g s, (find (o.getD g 0).toNat o (orN t (2 ^ g))).2.2)
    else findL find s r (find (o.getD g 0).toNat o (orN t (2 ^ g))).2.1 (find (o.getD g 0).toNat o (orN t (2 ^ g))).2.2
def find (b : List Nat) : Nat → Nat → List Int → Nat → Bool × List Int × Nat
  | 0, _, o, t => (false, o, t)
  | f + 1, s, o, t => findL (find b f) s (memN (anN (b.getD s 0) t)) o t
/-- How many gears have not been tried. -/
def untried (G t : Nat) : Nat := (List.range G).countP fun g => !t.testBit g
/-- A list of pairs: each gear with a sensor that has a cell with it, or with -1. -/
structure Pairs (b : List Nat) (G : Nat) (o : List Int) : Prop where
  len : o.length = G
  low : ∀ g, g < G → -1 ≤ o.getD g 0
  edge : ∀ g, g < G → 0 ≤ o.getD g 0 → (o.getD g 0).toNat < b.length ∧ (b.getD (o.getD g 0).toNat 0).testBit g = true
def sub2 (t u : Nat) : Prop := ∀ g, t.testBit g = true → u.testBit g = true
theorem sub2.refl (t : Nat) : sub2 t t := fun _ h => h
theorem sub2.trans {t u v : Nat} (h : sub2 t u) (k : sub2 u v) : sub2 t v := fun g hg => k g (h g hg)
theorem or_bit (t g i : Nat) : (orN t (2 ^ g)).testBit i = (t.testBit i || decide (g = i)) := by
  unfold orN; rw [Nat.testBit_or, Nat.testBit_two_pow]
theorem sub2_or (t g : Nat) : sub2 t (orN t (2 ^ g)) := fun i h => by rw [or_bit, h]; rfl
theorem untried_le {G t u : Nat} (h : sub2 t u) : untried G u ≤ untried G t := by
  unfold untried
  refine List.countP_mono_left fun g _ hg => ?_
  simp only [Bool.not_eq_true'] at hg ⊢
  cases ht : t.testBit g with
  | true => rw [h g ht] at hg; cases hg
  | false => rfl
theorem untried_lt {G t u g : Nat} (h : sub2 t u) (hg : g < G) (h1 : t.testBit g = false) (h2 : u.testBit g = true) : untried G u < untried G t := by
  have key : ∀ G, g < G → untried G u < untried G t := by
    intro G
    induction G with
    | zero => intro h; omega
    | succ G ih =>
      intro hgG
      unfold untried at ih ⊢
      rw [List.range_succ, List.countP_append, List.countP_append]
      have hle : ((List.range G).countP fun g => !u.testBit g) ≤ ((List.range G).countP fun g => !t.testBit g) := untried_le (G := G) h
      by_cases e : g = G
      · subst e
        simp [h1, h2]; omega
      · have := ih (by omega)
        have h3 : ([G].countP fun g => !u.testBit g) ≤ ([G].countP fun g => !t.testBit g) := by
          cases hu : u.testBit G with
          | true => simp [hu]
          | false =>
            cases ht : t.testBit G with
            | true => rw [h G ht] at hu; cases hu
            | false => simp [hu, ht]
        omega
  exact key G hg
theorem gi {l : List Int} {i : Nat} (h : i < l.length) : l.getD i 0 = l[i] := by simp [List.getD, List.getElem?_eq_getElem h]
theorem set_gi (l : List Int) (g i : Nat) (v : Int) (h : g < l.length) : (l.set g v).getD i 0 = if g = i then v else l.getD i 0 := by
  simp only [List.getD, List.getElem?_set]
  by_cases e : g = i
  · subst e; simp [h]
  · simp [e]
theorem count_put (l : List Int) {g : Nat} (v y : Int) (h : g < l.length) : (l.set g v).count y + (if l.getD g 0 = y then 1 else 0) = l.count y + if v = y then 1 else 0 := by
  rw [List.count_set h, gi h]
  have hc : l[g] = y → 0 < l.count y := fun e => List.count_pos_iff.2 (e ▸ List.getElem_mem _)
  by_cases e1 : l[g] = y
  · have := hc e1
    by_cases e2 : v = y <;> simp [e1, e2] <;> omega
  · by_cases e2 : v = y <;> simp [e1, e2]
/-- What a search does. -/
structure Found (b : List Nat) (G : Nat) (s : Nat) (o : List Int) (t : Nat) (x : Bool × List Int × Nat) : Prop where
  grow : sub2 t x.2.2
  no : x.1 = false → x.2.1 = o ∧ (∀ g, g < G → x.2.2.testBit g = true → t.testBit g = true ∨ (0 ≤ o.getD g 0 ∧ sub2 (b.getD (o.getD g 0).toNat 0) x.2.2))
  yes : x.1 = true → Pairs b G x.2.1 ∧ (∀ g, g < G → t.testBit g = true → x.2.1.getD g 0 = o.getD g 0) ∧ ∀ y : Int, 0 ≤ y → x.2.1.count y = o.count y + if (s : Int) = y then 1 else 0
theorem Pairs.put {b : List Nat} {G : Nat} {o : List Int} (h : Pairs b G o) {g s : Nat} (hg : g < G) (hs : s < b.length) (he : (b.getD s 0).testBit g = true) : Pairs b G (o.set g (s : Int)) := by
  have hl := h.len
  refine ⟨by simp [hl], fun i hi => ?_, fun i hi h0 => ?_⟩
  · rw [set_gi _ _ _ _ (by omega)]
    split
    · omega
    · exact h.low i hi
  · rw [set_gi _ _ _ _ (by omega)] at h0 ⊢
    split
    · rename_i e; subst e; rw [Int.toNat_natCast]; exact ⟨hs, he⟩
    · rename_i e; rw [if_neg e] at h0; exact h.edge i hi h0
theorem findL_spec {b : List Nat} {G f : Nat} (ih : ∀ s o t, untried G t < f → s < b.length → Pairs b G o → Found b G s o t (find b f s o t) ∧ ((find b f s o t).1 = false → sub2 (b.getD s 0) (find b f s o t).2.2)) {s t0 : Nat} (hs : s < b.length) (hu : untried G t0 < f + 1) :
    ∀ (l : List Nat) (o : List Int) (t : Nat), (∀ g ∈ l, g < G ∧ t0.testBit g = false ∧ (b.getD s 0).testBit g = true) → sub2 t0 t → Pairs b G o →
      (∀ g, g < G → t.testBit g = true → t0.testBit g = true ∨ (0 ≤ o.getD g 0 ∧ sub2 (b.getD (o.getD g 0).toNat 0) t)) →
      Found b G s o t0 (findL (find b f) s l o t) ∧ ((findL (find b f) s l o t).1 = false → sub2 t (findL (find b f) s l o t).2.2 ∧ ∀ g ∈ l, (findL (find b f) s l o t).2.2.testBit g = true)
  | [], o, t, _, hsub, hP, hcl => by
    refine ⟨⟨hsub, fun _ => ⟨rfl, fun g hg h => ?_⟩, fun h => by cases h⟩, fun _ => ⟨sub2.refl t, by simp⟩⟩
    exact hcl g hg h
  | g :: r, o, t, hl, hsub, hP, hcl => by
    obtain ⟨hg, hg0, hge⟩ := hl g (by simp)
    have hgl : g < o.length := by rw [hP.len]; exact hg
    rw [findL]
    by_cases h0 : o.getD g 0 < 0
    · rw [if_pos h0]
      refine ⟨⟨hsub.trans (sub2_or t g), (fun h => by cases h), fun _ => ⟨hP.put hg hs hge, fun i hi ht => ?_, fun y hy => ?_⟩⟩, fun h => by cases h⟩
      · rw [set_gi _ _ _ _ hgl, if_neg]
        rintro rfl; rw [hg0] at ht; cases ht
      · have := count_put o (s : Int) y hgl
        rw [if_neg (by omega)] at this
        exact this
    · rw [if_neg h0]
      have ht1 : sub2 t0 (orN t (2 ^ g)) := hsub.trans (sub2_or t g)
      have hbit : (orN t (2 ^ g)).testBit g = true := by rw [or_bit]; simp
      have hlt : untried G (orN t (2 ^ g)) < f := by
        have := untried_lt (G := G) ht1 hg hg0 hbit
        omega
      obtain ⟨hx, hxn⟩ := ih (o.getD g 0).toNat o (orN t (2 ^ g)) hlt (hP.edge g hg (by omega)).1 hP
      generalize find b f (o.getD g 0).toNat o (orN t (2 ^ g)) = x at *
      obtain ⟨x1, xo, xt⟩ := x
      cases x1 with
      | true =>
        simp only [if_true]
        obtain ⟨y1, y2, y3⟩ := hx.yes rfl
        simp only at y1 y2 y3
        have hxl : g < xo.length := by rw [y1.len]; exact hg
        refine ⟨⟨ht1.trans hx.grow, (fun h => by cases h), fun _ => ⟨y1.put hg hs hge, fun i hi ht => ?_, fun y hy => ?_⟩⟩, fun h => by cases h⟩
        · rw [set_gi _ _ _ _ hxl, if_neg (by rintro rfl; rw [hg0] at ht; cases ht)]
          exact y2 i hi (ht1 i ht)
        · have c1 := count_put xo (s : Int) y hxl
          have c2 := y3 y hy
          have e1 := y2 g hg hbit
          rw [e1] at c1
          have e2 : ((o.getD g 0).toNat : Int) = o.getD g 0 := by omega
          rw [e2] at c2
          simp only
          omega
      | false =>
        simp only [Bool.false_eq_true, if_false]
        obtain ⟨n1, n2⟩ := hx.no rfl
        simp only at n1 n2
        subst n1
        have hN := hxn rfl
        have hgrow : sub2 (orN t (2 ^ g)) xt := hx.grow
        simp only at hN
        have hcl' : ∀ i, i < G → xt.testBit i = true → t0.testBit i = true ∨ (0 ≤ xo.getD i 0 ∧ sub2 (b.getD (xo.getD i 0).toNat 0) xt) := by
          intro i hi hxi
          rcases n2 i hi hxi with h | h
          · rw [or_bit, Bool.or_eq_true, decide_eq_true_eq] at h
            rcases h with h | h
            · rcases hcl i hi h with h | ⟨h, h'⟩
              · exact .inl h
              · exact .inr ⟨h, h'.trans ((sub2_or t g).trans hgrow)⟩
            · subst h; exact .inr ⟨by omega, hN⟩
          · exact .inr h
        obtain ⟨r1, r2⟩ := findL_spec ih hs hu r xo xt (fun i hi => hl i (by simp [hi])) (ht1.trans hgrow) hP hcl'
        refine ⟨r1, fun h => ?_⟩
        obtain ⟨r3, r4⟩ := r2 h
        refine ⟨(sub2_or t g).trans (hgrow.trans r3), fun i hi => ?_⟩
        rcases List.mem_cons.1 hi with rfl | hi
        · exact r3 _ (hgrow _ hbit)
        · exact r4 i hi
theorem find_spec {b : List Nat} {G : Nat} (hG : G ≤ 62) (hb : ∀ x ∈ b, x < 2 ^ G) : ∀ (f s : Nat) (o : List Int) (t : Nat), untried G t < f → s < b.length → Pairs b G o → Found b G s o t (find b f s o t) ∧ ((find b f s o t).1 = false → sub2 (b.getD s 0) (find b f s o t).2.2)
  | 0, s, o, t, h, _, _ => by omega
  | f + 1, s, o, t, h, hs, hP => by
    rw [find]
    have hbs : b.getD s 0 < 2 ^ G := by rw [List.getD, List.getElem?_eq_getElem hs]; exact hb _ (List.getElem_mem hs)
    have hbit : ∀ g, (b.getD s 0).testBit g = true → g < G := fun g hg => by
      by_cases e : g < G
      · exact e
      · rw [Nat.testBit_lt_two_pow (Nat.lt_of_lt_of_le hbs (Nat.pow_le_pow_right (by decide) (by omega)))] at hg; cases hg
    have hm : ∀ g, g ∈ memN (anN (b.getD s 0) t) ↔ ((b.getD s 0).testBit g = true ∧ t.testBit g = false) := fun g => by
      unfold memN memTo
      rw [List.mem_filter, List.mem_range, anN_bit, Bool.and_eq_true, Bool.not_eq_true']
      exact ⟨fun h => h.2, fun h => ⟨by have := hbit g h.1; omega, h⟩⟩
    obtain ⟨r1, r2⟩ := findL_spec (find_spec hG hb f) hs h (memN (anN (b.getD s 0) t)) o t (fun g hg => by
      obtain ⟨h1, h2⟩ := (hm g).1 hg
      exact ⟨hbit g h1, h2, h1⟩) (sub2.refl t) hP (fun g _ h => .inl h)
    refine ⟨r1, fun h => ?_⟩
    obtain ⟨r3, r4⟩ := r2 h
    intro g hg
    cases ht : t.testBit g with
    | true => exact r3 g ht
    | false => exact r4 g ((hm g).2 ⟨hg, ht⟩)
end Go.Sx
