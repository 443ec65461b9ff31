/- A part of a proof; no conditions. -/
import Derived.Test.YtnpdjaikmdagmaaDoorP12
import Derived.Test.YtnpdjaikmdagmaaDoorP13
set_option linter.unusedSimpArgs false
set_option linter.unusedVariables false
set_option linter.unusedSectionVars false
section
/- Pages: each hour is once in the spans; what no page covers; the least of it. No conditions. -/
set_option linter.unusedSimpArgs false
set_option linter.unusedSectionVars false
namespace Go.Sx

theorem manyTo_app (p q : List Sp) (h : Int) : ∀ k, k ≤ p.length → manyTo (p ++ q) h k = manyTo p h k
  | 0, _ => rfl
  | k + 1, hk => by
    have ih := manyTo_app p q h k (by omega)
    have e : (p ++ q).getD k default = p.getD k default := by
      simp [List.getD, List.getElem?_append_left (show k < p.length by omega)]
    simp only [manyTo, ih, e]
theorem many_snoc (p : List Sp) (s : Sp) (h : Int) : many (p ++ [s]) h = many p h + if s.has h = true then 1 else 0 := by
  have e : (p ++ [s]).getD p.length default = s := by simp [List.getD]
  simp only [many, List.length_append, List.length_cons, List.length_nil, manyTo, manyTo_app p [s] h p.length (Nat.le_refl _), e]
theorem rns_bd (f : Nat → Bool) : ∀ H, ∀ s ∈ rns f H, 0 ≤ s.lo ∧ s.lo ≤ s.hi ∧ s.hi < (H : Int)
  | 0, s, h => by simp [rns] at h
  | H + 1, s, h => by
    have ih := rns_bd f H
    cases hf : f H
    · rw [rns_no hf] at h
      have := ih s h; omega
    · rcases snoc_cases (rns f H) with e | ⟨p, t, e⟩
      · rw [rns_nil hf e] at h
        simp at h; subst h; simp only; omega
      · have ht := ih t (by rw [e]; simp)
        by_cases hs : t.hi = (H : Int) - 1
        · rw [rns_more hf e hs] at h
          rcases List.mem_append.1 h with h | h
          · have := ih s (by rw [e]; exact List.mem_append_left _ h); omega
          · simp at h; subst h; simp only; omega
        · rw [rns_new hf e hs] at h
          rcases List.mem_append.1 h with h | h
          · have := ih s (by rw [e]; exact h); omega
          · simp at h; subst h; simp only; omega
theorem has_iff (s : Sp) (h : Int) : s.has h = true ↔ s.lo ≤ h ∧ h ≤ s.hi := by simp [Sp.has]
theorem many_rns (f : Nat → Bool) : ∀ (H h : Nat), many (rns f H) h = if h < H ∧ f h = true then 1 else 0
  | 0, h => by simp [rns, many, manyTo]
  | H + 1, h => by
    have ih := many_rns f H h
    have hb := rns_bd f H
    cases hf : f H
    · rw [rns_no hf, ih]
      by_cases e : h = H
      · subst e; simp [hf]
      · have : (h < H + 1) = (h < H) := propext (by omega)
        simp only [this]
    · rcases snoc_cases (rns f H) with e | ⟨p, t, e⟩
      · rw [rns_nil hf e]
        rw [e] at ih
        have h0 : many ([] : List Sp) (h : Int) = 0 := rfl
        rw [h0] at ih
        have h1 := many_snoc [] ⟨H, H⟩ h
        rw [List.nil_append, h0] at h1
        rw [h1]
        by_cases eh : h = H
        · subst eh
          rw [if_pos (by rw [has_iff]; simp only; omega), if_pos ⟨by omega, hf⟩]
        · rw [if_neg (by rw [has_iff]; simp only; omega)]
          by_cases hc : h < H ∧ f h = true
          · rw [if_pos hc] at ih; omega
          · rw [if_neg (fun hh => hc ⟨by omega, hh.2⟩)]
      · have ht := hb t (by rw [e]; simp)
        rw [e, many_snoc] at ih
        by_cases hs : t.hi = (H : Int) - 1
        · rw [rns_more hf e hs, many_snoc]
          by_cases eh : h = H
          · subst eh
            rw [if_neg (by rw [has_iff]; omega), if_neg (by omega)] at ih
            rw [if_pos (by rw [has_iff]; simp only; omega), if_pos ⟨by omega, hf⟩]; omega
          · have e1 : ((⟨t.lo, H⟩ : Sp).has h = true) = (t.has h = true) := propext (by rw [has_iff, has_iff]; simp only; omega)
            simp only [e1]
            rw [ih]
            have : (h < H + 1 ∧ f h = true) = (h < H ∧ f h = true) := propext (by constructor <;> rintro ⟨a, b⟩ <;> exact ⟨by omega, b⟩)
            simp only [this]
        · rw [rns_new hf e hs, many_snoc, many_snoc, ih]
          by_cases eh : h = H
          · subst eh
            rw [if_neg (by omega), if_pos (by rw [has_iff]; simp only; omega), if_pos ⟨by omega, hf⟩]
          · rw [if_neg (by rw [has_iff]; simp only; omega : ¬ (⟨H, H⟩ : Sp).has h = true)]
            have : (h < H + 1 ∧ f h = true) = (h < H ∧ f h = true) := propext (by constructor <;> rintro ⟨a, b⟩ <;> exact ⟨by omega, b⟩)
            simp only [this]; omega
/-- The first span begins at the first such hour. -/
theorem rns_head (f : Nat → Bool) : ∀ H, (rns f H = [] ∧ ∀ h, h < H → f h = false) ∨ ∃ s r, ∃ h0 : Nat, rns f H = s :: r ∧ s.lo = h0 ∧ h0 < H ∧ f h0 = true ∧ ∀ h, h < h0 → f h = false
  | 0 => .inl ⟨rfl, fun h hh => by omega⟩
  | H + 1 => by
    have ih := rns_head f H
    cases hf : f H
    · rw [rns_no hf]
      rcases ih with ⟨h1, h2⟩ | ⟨s, r, h0, h1, h2, h3, h4, h5⟩
      · refine .inl ⟨h1, fun h hh => ?_⟩
        by_cases e : h = H
        · subst e; exact hf
        · exact h2 h (by omega)
      · exact .inr ⟨s, r, h0, h1, h2, by omega, h4, h5⟩
    · rcases ih with ⟨h1, h2⟩ | ⟨s, r, h0, h1, h2, h3, h4, h5⟩
      · rw [rns_nil hf h1]
        exact .inr ⟨⟨H, H⟩, [], H, rfl, rfl, by omega, hf, h2⟩
      · rcases snoc_cases (rns f H) with e | ⟨p, t, e⟩
        · rw [e] at h1; cases h1
        · have hpt : p ++ [t] = s :: r := by rw [← e, h1]
          by_cases hs : t.hi = (H : Int) - 1
          · rw [rns_more hf e hs]
            cases p with
            | nil =>
              simp at hpt
              exact .inr ⟨⟨t.lo, H⟩, [], h0, rfl, by simp only; rw [hpt.1]; exact h2, by omega, h4, h5⟩
            | cons a p =>
              simp at hpt
              exact .inr ⟨a, p ++ [⟨t.lo, H⟩], h0, rfl, by rw [hpt.1]; exact h2, by omega, h4, h5⟩
          · rw [rns_new hf e hs, hpt]
            exact .inr ⟨s, r ++ [⟨H, H⟩], h0, rfl, h2, by omega, h4, h5⟩

/-! what is left of a span -/
def mns (a b : Sp) : List Sp := (if a.lo ≤ min a.hi (b.lo - 1) then [⟨a.lo, min a.hi (b.lo - 1)⟩] else []) ++ (if max a.lo (b.hi + 1) ≤ a.hi then [⟨max a.lo (b.hi + 1), a.hi⟩] else [])
def rstS (l : List Sp) (b : Sp) : List Sp := l.flatMap fun a => mns a b
theorem mns_len (a b : Sp) : (mns a b).length ≤ 2 := by unfold mns; split <;> split <;> simp
theorem mns_mem {a b s : Sp} (h : s ∈ mns a b) : s.lo ≤ s.hi ∧ a.lo ≤ s.lo ∧ s.hi ≤ a.hi := by
  unfold mns at h
  rcases List.mem_append.1 h with h | h
  · split at h
    · simp at h; subst h; simp only; omega
    · simp at h
  · split at h
    · simp at h; subst h; simp only; omega
    · simp at h
theorem mns_has (a b : Sp) (h : Int) : (∃ s ∈ mns a b, s.has h = true) ↔ a.has h = true ∧ b.has h = false := by
  have hb : b.has h = false ↔ h < b.lo ∨ b.hi < h := by
    have := has_iff b h
    cases hh : b.has h
    · rw [hh] at this
      simp only [Bool.false_eq_true, false_iff] at this
      simp; omega
    · rw [hh] at this
      simp only [true_iff] at this
      simp; omega
  rw [has_iff, hb]
  constructor
  · rintro ⟨s, hs, hh⟩
    rw [has_iff] at hh
    unfold mns at hs
    rcases List.mem_append.1 hs with hs | hs
    · split at hs
      · simp at hs; subst hs; simp only at hh; omega
      · simp at hs
    · split at hs
      · simp at hs; subst hs; simp only at hh; omega
      · simp at hs
  · rintro ⟨h1, h2⟩
    rcases h2 with h2 | h2
    · refine ⟨⟨a.lo, min a.hi (b.lo - 1)⟩, ?_, ?_⟩
      · unfold mns; rw [if_pos (by omega)]; simp
      · rw [has_iff]; simp only; omega
    · refine ⟨⟨max a.lo (b.hi + 1), a.hi⟩, ?_, ?_⟩
      · unfold mns; rw [if_pos (show max a.lo (b.hi + 1) ≤ a.hi by omega)]; simp
      · rw [has_iff]; simp only; omega
theorem rstS_has (l : List Sp) (b : Sp) (h : Int) : (∃ s ∈ rstS l b, s.has h = true) ↔ (∃ a ∈ l, a.has h = true) ∧ b.has h = false := by
  unfold rstS
  constructor
  · rintro ⟨s, hs, hh⟩
    obtain ⟨a, ha, hsa⟩ := List.mem_flatMap.1 hs
    have := (mns_has a b h).1 ⟨s, hsa, hh⟩
    exact ⟨⟨a, ha, this.1⟩, this.2⟩
  · rintro ⟨⟨a, ha, h1⟩, h2⟩
    obtain ⟨s, hs, hh⟩ := (mns_has a b h).2 ⟨h1, h2⟩
    exact ⟨s, List.mem_flatMap.2 ⟨a, ha, hs⟩, hh⟩
theorem rstS_len (l : List Sp) (b : Sp) : (rstS l b).length ≤ 2 * l.length := by
  unfold rstS
  induction l with
  | nil => simp
  | cons a l ih =>
    have := mns_len a b
    simp only [List.flatMap_cons, List.length_append, List.length_cons]; omega
/-- What the first k pages leave of a span. -/
def lftS (a : Sp) (pg : List Sp) : Nat → List Sp
  | 0 => [a]
  | k + 1 => rstS (lftS a pg k) (pg.getD k default)
theorem lftS_len (a : Sp) (pg : List Sp) : ∀ k, (lftS a pg k).length ≤ 2 ^ k
  | 0 => by simp [lftS]
  | k + 1 => by
    have ih := lftS_len a pg k
    have := rstS_len (lftS a pg k) (pg.getD k default)
    simp only [lftS]
    rw [Nat.pow_succ]; omega
theorem lftS_bd (a : Sp) (ha : a.lo ≤ a.hi) (pg : List Sp) : ∀ k, ∀ s ∈ lftS a pg k, s.lo ≤ s.hi ∧ a.lo ≤ s.lo ∧ s.hi ≤ a.hi
  | 0, s, h => by simp [lftS] at h; subst h; omega
  | k + 1, s, h => by
    simp only [lftS, rstS] at h
    obtain ⟨x, hx, hs⟩ := List.mem_flatMap.1 h
    have h1 := lftS_bd a ha pg k x hx
    have h2 := mns_mem hs
    omega
theorem lftS_has (a : Sp) (pg : List Sp) (h : Int) : ∀ k, (∃ s ∈ lftS a pg k, s.has h = true) ↔ a.has h = true ∧ manyTo pg h k = 0
  | 0 => by simp [lftS, manyTo]
  | k + 1 => by
    rw [lftS, rstS_has, lftS_has a pg h k, manyTo]
    constructor
    · rintro ⟨⟨h1, h2⟩, h3⟩
      exact ⟨h1, by rw [h2, h3]; rfl⟩
    · rintro ⟨h1, h2⟩
      have h3 : manyTo pg h k = 0 := by omega
      rw [h3] at h2
      refine ⟨⟨h1, h3⟩, ?_⟩
      cases hh : (pg.getD k default).has h with
      | false => rfl
      | true => rw [hh] at h2; simp at h2
/-- The least low end of the first k. -/
def minTo (l : List Sp) : Nat → Option Int
  | 0 => none
  | k + 1 => match minTo l k with
    | none => some (l.getD k default).lo
    | some m => some (if (l.getD k default).lo < m then (l.getD k default).lo else m)
theorem minTo_none (l : List Sp) : ∀ k, minTo l k = none ↔ k = 0
  | 0 => by simp [minTo]
  | k + 1 => by simp only [minTo]; split <;> simp
theorem minTo_spec (l : List Sp) : ∀ k, k ≤ l.length → ∀ m, minTo l k = some m → (∃ s ∈ l, s.lo = m) ∧ ∀ j, j < k → m ≤ (l.getD j default).lo
  | 0, _, m, h => by simp [minTo] at h
  | k + 1, hk, m, h => by
    have ih := minTo_spec l k (by omega)
    have hin : l.getD k default ∈ l := by
      have : l.getD k default = l[k]'(by omega) := by simp [List.getD, show k < l.length by omega]
      rw [this]; exact List.getElem_mem _
    simp only [minTo] at h
    cases hm : minTo l k with
    | none =>
      rw [hm] at h
      have hk0 := (minTo_none l k).1 hm
      simp only [Option.some.injEq] at h
      subst hk0
      refine ⟨⟨_, hin, h⟩, fun j hj => ?_⟩
      have : j = 0 := by omega
      subst this; omega
    | some m0 =>
      rw [hm] at h
      simp only [Option.some.injEq] at h
      obtain ⟨⟨s, hs, hs'⟩, hj⟩ := ih m0 hm
      split at h
      · rename_i hlt
        refine ⟨⟨_, hin, h⟩, fun j hjk => ?_⟩
        by_cases e : j = k
        · subst e; omega
        · have := hj j (by omega); omega
      · rename_i hlt
        refine ⟨⟨s, hs, by omega⟩, fun j hjk => ?_⟩
        by_cases e : j = k
        · subst e; omega
        · have := hj j (by omega); omega
/-- Gaps and what is left: they are empty together, and begin with the same hour. -/
theorem gaps_left {H : Nat} (hH : 0 < H) {pg : List Sp} :
    (rns (fun h => many pg h == 0) H = [] ↔ lftS ⟨0, H - 1⟩ pg pg.length = []) ∧
    ∀ s r, rns (fun h => many pg h == 0) H = s :: r → minTo (lftS ⟨0, H - 1⟩ pg pg.length) (lftS ⟨0, H - 1⟩ pg pg.length).length = some s.lo := by
  have hh := fun h => lftS_has ⟨0, H - 1⟩ pg h pg.length
  have hb := lftS_bd ⟨0, H - 1⟩ (by simp only; omega) pg pg.length
  generalize lftS ⟨0, H - 1⟩ pg pg.length = L at *
  simp only at hb
  have key : ∀ h : Nat, h < H → ((∃ s ∈ L, s.has h = true) ↔ (many pg h == 0) = true) := by
    intro h hlt
    rw [hh h, has_iff]
    simp only [many, beq_iff_eq]
    constructor
    · exact fun x => x.2
    · exact fun x => ⟨by omega, x⟩
  have ne : ∀ x ∈ L, ∃ h : Nat, h < H ∧ x.lo = h ∧ (many pg h == 0) = true := by
    intro x hx
    have := hb x hx
    refine ⟨x.lo.toNat, by omega, by omega, ?_⟩
    refine (key x.lo.toNat (by omega)).1 ⟨x, hx, ?_⟩
    rw [has_iff]; omega
  rcases rns_head (fun h => many pg h == 0) H with ⟨h1, h2⟩ | ⟨s, r, h0, h1, h2, h3, h4, h5⟩
  · have hL : L = [] := by
      cases L with
      | nil => rfl
      | cons x L =>
        obtain ⟨h, hlt, _, e⟩ := ne x (by simp)
        have h3 : (many pg h == 0) = false := h2 h hlt
        rw [h3] at e; cases e
    refine ⟨⟨fun _ => hL, fun _ => h1⟩, fun s r e => ?_⟩
    rw [h1] at e; cases e
  · have hL : L ≠ [] := by
      obtain ⟨x, hx, _⟩ := (key h0 h3).2 h4
      intro e; rw [e] at hx; cases hx
    refine ⟨⟨fun e => (by rw [h1] at e; cases e), fun e => absurd e hL⟩, fun s' r' e => ?_⟩
    rw [h1] at e
    simp only [List.cons.injEq] at e
    rw [← e.1, h2]
    cases hm : minTo L L.length with
    | none => exact absurd (List.length_eq_zero_iff.1 ((minTo_none L _).1 hm)) hL
    | some m =>
      obtain ⟨⟨x, hx, hxm⟩, hall⟩ := minTo_spec L L.length (Nat.le_refl _) m hm
      obtain ⟨h, hlt, e1, e2⟩ := ne x hx
      have g1 : h0 ≤ h := by
        apply Classical.byContradiction; intro hc
        have h6 : (many pg h == 0) = false := h5 h (by omega)
        rw [h6] at e2; cases e2
      obtain ⟨y, hy, hyh⟩ := (key h0 h3).2 h4
      rw [has_iff] at hyh
      obtain ⟨j, hj, hjy⟩ := List.getElem_of_mem hy
      have := hall j hj
      rw [show L.getD j default = y by simp [List.getD, hj, hjy]] at this
      congr 1; omega
end Go.Sx
end
section
/- Parts: spans of one dimension: Clone, minus, corner, Compare. No conditions. -/
set_option linter.unusedSimpArgs false
set_option linter.unusedSectionVars false
set_option maxRecDepth 100000
set_option maxHeartbeats 4000000
namespace Go.Sx
open Go.Proofs
attribute [local irreducible] HLe

/-- Clone of a box of one span: a new block. -/
def clnS : HSpec where
  go args h := match args with
    | [.sl z els] => ⟨z = 2 ∧ els.length = 1, .osl 8207 (hnext h 8207) 1 0 1 1, hpush h 8207 { z := 2, els := els, ty := 34 }⟩
    | [.osl s i n off len cap] => match hget h s i with
      | some B => ⟨(B.z = 2 ∧ B.els.length = 1) ∧ (B.cl = true ∧ s ≠ 999999999) ∧ n = 1 ∧ off = 0 ∧ len = 1 ∧ cap = 1, .osl 8207 (hnext h 8207) 1 0 1 1, hpush h 8207 { z := 2, els := B.els, ty := 34 }⟩
      | none => ⟨False, .top, h⟩
    | _ => ⟨False, .top, h⟩
theorem cln_inv {args : List V} {h : Hp} (hc : (clnS.go args h).c) : (∃ els, args = [.sl 2 els] ∧ els.length = 1 ∧ clnS.go args h = ⟨True, .osl 8207 (hnext h 8207) 1 0 1 1, hpush h 8207 { z := 2, els := els, ty := 34 }⟩) ∨
    ∃ s i els ty fz, args = [.osl s i 1 0 1 1] ∧ hget h s i = some { z := 2, els := els, ty := ty, fz := fz, cl := true } ∧ els.length = 1 ∧ s ≠ 999999999 ∧ clnS.go args h = ⟨True, .osl 8207 (hnext h 8207) 1 0 1 1, hpush h 8207 { z := 2, els := els, ty := 34 }⟩ := by
  match args, hc with
  | [.sl z els], hc =>
    have hc : z = 2 ∧ els.length = 1 := hc
    obtain ⟨rfl, h2⟩ := hc
    exact .inl ⟨els, rfl, h2, by simp [clnS, h2]⟩
  | [.osl s i n off len cap], hc =>
    cases hB : hget h s i with
    | none => simp [clnS, hB] at hc
    | some B =>
      obtain ⟨z, els, ty, fz, cl⟩ := B
      have hc : (z = 2 ∧ els.length = 1) ∧ (cl = true ∧ s ≠ 999999999) ∧ n = 1 ∧ off = 0 ∧ len = 1 ∧ cap = 1 := by simpa only [clnS, hB] using hc
      obtain ⟨⟨rfl, h2⟩, ⟨rfl, h5⟩, rfl, rfl, rfl, rfl⟩ := hc
      exact .inr ⟨s, i, els, ty, fz, rfl, hB, h2, h5, by simp [clnS, hB, h2, h5]⟩
noncomputable abbrev E82 : Env := { P := Tryd.prog, fn := tbl [], own := [500005], key := 8200, nt := 8 }
theorem b82 : HeapBody E82 [] Tryd.f82 clnS := by
  intro args h hc
  rcases cln_inv hc with ⟨els, rfl, h1, hgo⟩ | ⟨s, i, els, ty, fz, rfl, hB, h1, hs, hgo⟩
  · rw [hgo]
    clear hgo hc
    obtain ⟨r, rfl⟩ : ∃ r, els = [r] := by
      match els, h1 with
      | [r], _ => exact ⟨r, rfl⟩
    simp -dsimp [Tryd.f82, E82]
    repeat' (first | omega | (simp -dsimp [E82, ri, cellp, ints, *]) | (refine Also.intro ?_ fun _ => ?_) | (refine Hold.intro fun _ => ?_) | (refine And.intro ?_ ?_))
    exact HLe.refl _
  · rw [hgo]
    clear hgo hc
    obtain ⟨r, rfl⟩ : ∃ r, els = [r] := by
      match els, h1 with
      | [r], _ => exact ⟨r, rfl⟩
    simp -dsimp [Tryd.f82, E82]
    repeat' (first | omega | (simp -dsimp [E82, ri, cellp, ints, hB]) | (refine Also.intro ?_ fun _ => ?_) | (refine Hold.intro fun _ => ?_) | (refine And.intro ?_ ?_))
    exact HLe.refl _
theorem ok82 : FnOK Tryd.prog 82 (.heap clnS) := heap_fn (E := E82) rfl LOK.nil (ok := []) (fn := Tryd.f82) (by kernel_rfl) (by kernel_rfl) (by kernel_rfl) (by kernel_rfl) rfl (fun args h hc => by rcases cln_inv hc with ⟨els, rfl, _⟩ | ⟨s, i, els, ty, fz, rfl, _⟩ <;> simp) b82

@[simp] def miA (d : Sp × Sp) : List V := [.sl 2 [d.1.row], .sl 2 [d.2.row]]
theorem miA_inj (a b : Sp × Sp) (h : miA a = miA b) : a = b := by
  obtain ⟨a1, a2⟩ := a; obtain ⟨b1, b2⟩ := b
  simp only [miA, List.cons.injEq, V.sl.injEq, true_and, and_true] at h
  rw [Sp.row_inj _ _ h.1, Sp.row_inj _ _ h.2]
theorem miA_dec (a b : Sp) : decC miA [.sl 2 [[.int .i64 a.lo, .int .i64 a.hi]], .sl 2 [[.int .i64 b.lo, .int .i64 b.hi]]] = (a, b) := decC_eq miA_inj (a, b)
def miE (d : Sp × Sp) : List V := [.ip 1 [[.sl 2 [d.1.row]]] 0 0, .ip 1 [[.sl 2 [d.2.row]]] 0 0]
theorem miE_inj (a b : Sp × Sp) (h : miE a = miE b) : a = b := by
  obtain ⟨a1, a2⟩ := a; obtain ⟨b1, b2⟩ := b
  simp only [miE, List.cons.injEq, V.ip.injEq, V.sl.injEq, true_and, and_true] at h
  rw [Sp.row_inj _ _ h.1, Sp.row_inj _ _ h.2]
noncomputable abbrev minS : PSpec := mkP miA (fun _ => True) fun d => .fn 81 (miE d)
noncomputable abbrev E54 : Env := { P := Tryd.prog, fn := tbl [], own := [], key := 5400, nt := 6, frz := [(1, [2, 50002, 3, 50003])] }
theorem b54 : PureBody E54 [] Tryd.f54 minS := by
  refine pb ?_
  rintro ⟨a, b⟩ _
  simp -dsimp [Tryd.f54, E54, Sp.row, miE]
  repeat' (first | omega | (simp -dsimp [E54, ri, cellp, ints, Sp.row, miE]) | (refine Also.intro ?_ fun _ => ?_) | (refine Hold.intro fun _ => ?_) | (refine And.intro ?_ ?_))
theorem ok54 : FnOK Tryd.prog 54 (.pure minS) := pure_fn (E := E54) rfl LOK.nil (ok := []) (fn := Tryd.f54) (by kernel_rfl) (by kernel_rfl) (by kernel_rfl) (by kernel_rfl) rfl (fun _ _ => by simp) b54

/-! corner -/
@[simp] def bxE (d : Sp) : List V := [.sl 2 [d.row]]
theorem bxE_inj (a b : Sp) (h : bxE a = bxE b) : a = b := by
  simp only [bxE, List.cons.injEq, V.sl.injEq, true_and, and_true] at h
  exact Sp.row_inj _ _ h
theorem bxE_dec (a : Sp) : decC bxE [.sl 2 [[.int .i64 a.lo, .int .i64 a.hi]]] = a := decC_eq bxE_inj a
noncomputable abbrev corS : PSpec := mkP bxE (fun _ => True) fun d => ints [d.lo]
noncomputable abbrev E31 : Env := { P := Tryd.prog, fn := tbl [], own := [], key := 3100, nt := 18 }
theorem b31 : PureBody E31 [] Tryd.f31 corS := by
  refine pb ?_
  rintro s _
  have w1 : IntKind.wrap .i64 1 = 1 := wrap_id (by omega) (by omega)
  simp -dsimp [Tryd.f31, E31, Sp.row]
  refine awp_loop_g [(2, 3115, 1, 3)] rfl (by simp) [8, 9, 10, 4, 11, 12, 13, 14, 15, 2, 16, 7] (fun k : Bool => [(7, (true, .int .i64 (if k then 1 else 0))), (2, (true, .bsl 3115 0 (if k then 1 else 0)))])
    (fun k => hps [(3115, { base := 0, blks := [{ z := 1, els := if k then [ri s.lo] else [], ty := 3 }] }), (3104, { base := if k then 1 else 0, blks := [] })] noH) (fun k => if k then 0 else 1) false ?_ ?_ ?_
  · simp [okAll, okv]
  · exact (by (try simp -dsimp only [hpush_noH, hpush_hps, hps_over]); refine hle_hps ?_; simp -dsimp [allK, ]; repeat' (first | (refine And.intro ?_ ?_) | (refine sLe.same ?_ ?_ <;> (simp; done)) | (refine sLe.clear ?_ ?_ <;> (first | (simp; done) | (simp; omega))) | (refine sLe.drop 1 ?_ ?_ ?_ <;> (simp; done))))
  rintro (_ | _)
  · simp -dsimp []
    repeat' (first | omega | (simp -dsimp [E31, ri, cellp, ints, w1, ri]) | (refine Also.intro ?_ fun _ => ?_) | (refine Hold.intro fun _ => ?_) | (refine And.intro ?_ ?_))
    · exact tle_chain rfl (by simp [okAll, okv])
    · exact (by (try simp -dsimp only [hpush_noH, hpush_hps, hps_over]); refine hle_hps ?_; simp -dsimp [allK, ri]; repeat' (first | (refine And.intro ?_ ?_) | (refine sLe.same ?_ ?_ <;> (simp; done)) | (refine sLe.clear ?_ ?_ <;> (first | (simp; done) | (simp; omega))) | (refine sLe.drop 1 ?_ ?_ ?_ <;> (simp; done))))
  · simp -dsimp []
    repeat' (first | omega | (simp -dsimp [E31, ri, cellp, ints, ri, ints]) | (refine Also.intro ?_ fun _ => ?_) | (refine Hold.intro fun _ => ?_) | (refine And.intro ?_ ?_))
theorem ok31 : FnOK Tryd.prog 31 (.pure corS) := pure_fn (E := E31) rfl LOK.nil (ok := []) (fn := Tryd.f31) (by kernel_rfl) (by kernel_rfl) (by kernel_rfl) (by kernel_rfl) rfl (fun _ _ => by simp) b31

/-! Compare of points of one coordinate -/
abbrev nanS : PSpec := { dom := Int, enc := fun d => [.int .i64 d], dec := fun l => (l.getD 0 .top).toInt, pre := fun _ => True, res := fun _ => .bool false }
noncomputable abbrev E83 : Env := { P := Tryd.prog, fn := tbl [], own := [], key := 8300, nt := 6 }
theorem b83 : PureBody E83 [] Tryd.f83 nanS := by
  refine pb ?_
  rintro n _
  simp -dsimp [Tryd.f83, E83]
  repeat' (first | omega | (simp -dsimp [E83, ri, cellp, ints, *]) | (refine Also.intro ?_ fun _ => ?_) | (refine Hold.intro fun _ => ?_) | (refine And.intro ?_ ?_))
theorem ok83 : FnOK Tryd.prog 83 (.pure nanS) := pure_fn (E := E83) rfl LOK.nil (ok := []) (fn := Tryd.f83) (by kernel_rfl) (by kernel_rfl) (by kernel_rfl) (by kernel_rfl) rfl (fun _ _ => by simp) b83
def cmpZ (a b : Int) : Int := if a < b then -1 else if b < a then 1 else 0
abbrev cmpS : PSpec := { dom := Int × Int, enc := fun d => [.int .i64 d.1, .int .i64 d.2], dec := fun l => ((l.getD 0 .top).toInt, (l.getD 1 .top).toInt), pre := fun _ => True, res := fun d => .int .i64 (cmpZ d.1 d.2) }
noncomputable abbrev E55 : Env := { P := Tryd.prog, fn := tbl [(83, .pure nanS)], own := [], key := 5500, nt := 20 }
theorem b55 : PureBody E55 [] Tryd.f55 cmpS := by
  refine pb ?_
  rintro ⟨a, b⟩ _
  have hC : cmpZ a b = if a < b then -1 else if b < a then 1 else 0 := rfl
  by_cases h1 : a < b
  · rw [if_pos h1] at hC
    simp -dsimp [Tryd.f55, E55]
    repeat' (first | omega | (simp -dsimp [E55, ri, cellp, ints, hC, h1]) | (refine Also.intro ?_ fun _ => ?_) | (refine Hold.intro fun _ => ?_) | (refine And.intro ?_ ?_))
  · rw [if_neg h1] at hC
    have h1' : (a < b) = False := eq_false h1
    by_cases h2 : b < a
    · rw [if_pos h2] at hC
      simp -dsimp [Tryd.f55, E55]
      repeat' (first | omega | (simp -dsimp [E55, ri, cellp, ints, hC, h1', h2]) | (refine Also.intro ?_ fun _ => ?_) | (refine Hold.intro fun _ => ?_) | (refine And.intro ?_ ?_))
    · rw [if_neg h2] at hC
      have h2' : (b < a) = False := eq_false h2
      simp -dsimp [Tryd.f55, E55]
      repeat' (first | omega | (simp -dsimp [E55, ri, cellp, ints, hC, h1', h2']) | (refine Also.intro ?_ fun _ => ?_) | (refine Hold.intro fun _ => ?_) | (refine And.intro ?_ ?_))
theorem ok55 : FnOK Tryd.prog 55 (.pure cmpS) := pure_fn (E := E55) rfl (.cons ok83 .nil) (ok := []) (fn := Tryd.f55) (by kernel_rfl) (by kernel_rfl) (by kernel_rfl) (by kernel_rfl) rfl (fun _ _ => by simp) b55
@[simp] def c1E (d : Int × Int) : List V := [.sl 1 [[.int .i64 d.1]], .sl 1 [[.int .i64 d.2]]]
theorem c1E_inj (a b : Int × Int) (h : c1E a = c1E b) : a = b := by
  obtain ⟨a1, a2⟩ := a; obtain ⟨b1, b2⟩ := b
  simp only [c1E, List.cons.injEq, V.sl.injEq, V.int.injEq, true_and, and_true] at h
  rw [h.1, h.2]
theorem c1E_dec (a b : Int) : decC c1E [.sl 1 [[.int .i64 a]], .sl 1 [[.int .i64 b]]] = (a, b) := decC_eq c1E_inj (a, b)
noncomputable abbrev comS : PSpec := mkP c1E (fun _ => True) fun d => .int .i64 (cmpZ d.1 d.2)
noncomputable abbrev E32 : Env := { P := Tryd.prog, fn := tbl [(55, .pure cmpS)], own := [], key := 3200, nt := 36 }
theorem b32 : PureBody E32 [] Tryd.f32 comS := by
  refine pb ?_
  rintro ⟨a, b⟩ _
  have w1 : IntKind.wrap .i64 1 = 1 := wrap_id (by omega) (by omega)
  simp -dsimp [Tryd.f32, E32]
  by_cases h0 : cmpZ a b = 0
  · refine awp_loop [12, 13, 14, 15, 5, 6, 16, 17, 18, 19, 4, 20, 21, 22, 23, 7, 24, 25, 26, 8, 27, 28, 29, 30, 11] (fun k : Bool => [(11, (true, .int .i64 (if k then 1 else 0))), (4, (true, .int .i64 0))]) (fun _ => noH) (fun k => if k then 0 else 1) false ?_ (HLe.refl _) ?_
    · simp [okAll, okv]
    rintro (_ | _)
    · simp -dsimp []
      repeat' (first | omega | (simp -dsimp [E32, ri, cellp, ints, h0, w1]) | (refine Also.intro ?_ fun _ => ?_) | (refine Hold.intro fun _ => ?_) | (refine And.intro ?_ ?_))
      · exact tle_chain rfl (by simp [okAll, okv])
      · exact HLe.refl _
    · simp -dsimp []
      repeat' (first | omega | (simp -dsimp [E32, ri, cellp, ints, h0, w1]) | (refine Also.intro ?_ fun _ => ?_) | (refine Hold.intro fun _ => ?_) | (refine And.intro ?_ ?_))
  · refine awp_loop [12, 13, 14, 15, 5, 6, 16, 17, 18, 19, 4, 20, 21, 22, 23, 7, 24, 25, 26, 8, 27, 28, 29, 30, 11] (fun k : Bool => [(11, (true, .int .i64 0))]) (fun _ => noH) (fun k => if k then 0 else 1) false ?_ (HLe.refl _) ?_
    · simp [okAll, okv]
    rintro (_ | _)
    · simp -dsimp []
      repeat' (first | omega | (simp -dsimp [E32, ri, cellp, ints, h0, w1]) | (refine Also.intro ?_ fun _ => ?_) | (refine Hold.intro fun _ => ?_) | (refine And.intro ?_ ?_))
    · simp -dsimp []
      repeat' (first | omega | (simp -dsimp [E32, ri, cellp, ints, h0, w1]) | (refine Also.intro ?_ fun _ => ?_) | (refine Hold.intro fun _ => ?_) | (refine And.intro ?_ ?_))
theorem ok32 : FnOK Tryd.prog 32 (.pure comS) := pure_fn (E := E32) rfl (.cons ok55 .nil) (ok := []) (fn := Tryd.f32) (by kernel_rfl) (by kernel_rfl) (by kernel_rfl) (by kernel_rfl) rfl (fun _ _ => by simp) b32
end Go.Sx
end
section
/- Parts: what is left of a span, as it is yielded. No conditions. -/
set_option linter.unusedSimpArgs false
set_option linter.unusedSectionVars false
set_option maxRecDepth 100000
set_option maxHeartbeats 8000000
namespace Go.Sx
open Go.Proofs
attribute [local irreducible] HLe

def mn1 (a b : Sp) : List Sp := if a.lo ≤ min a.hi (b.lo - 1) then [⟨a.lo, min a.hi (b.lo - 1)⟩] else []
def mn2 (a b : Sp) : List Sp := if max a.lo (b.hi + 1) ≤ a.hi then [⟨max a.lo (b.hi + 1), a.hi⟩] else []
theorem mns_eq (a b : Sp) : mns a b = mn1 a b ++ mn2 a b := rfl
/-- What is yet to come. -/
def mnR (a b : Sp) : Nat → List Sp
  | 0 => mn1 a b ++ mn2 a b
  | 1 => mn2 a b
  | _ => []
/-- What has been yielded. -/
def mnD (a b : Sp) : Nat → List Sp
  | 0 => []
  | 1 => mn1 a b
  | _ => mn1 a b ++ mn2 a b
def mnV (s : Sp) : List V := [.sl 2 [s.row]]
/-- Spans within the bounds of numbers. -/
structure Bnd (s : Sp) : Prop where
  l : -2000000 ≤ s.lo ∧ s.lo ≤ 2000000
  h : -2000000 ≤ s.hi ∧ s.hi ≤ 2000000
structure BndP (d : Sp × Sp) : Prop where
  a : Bnd d.1
  b : Bnd d.2
open Classical in
noncomputable def mnDec (caps : List V) (_ : Hp) : Prop × List (List V) := if x : ∃ d, caps = miE d then (BndP x.choose, (mns x.choose.1 x.choose.2).map mnV) else (False, [])
theorem mnDec_at (d : Sp × Sp) (h : Hp) : mnDec (miE d) h = (BndP d, (mns d.1 d.2).map mnV) := by
  have hx : ∃ d', miE d = miE d' := ⟨d, rfl⟩
  have e : hx.choose = d := (miE_inj _ _ hx.choose_spec).symm
  simp only [mnDec, dif_pos hx, e]
theorem mnDec_inv {caps : List V} {h : Hp} (hc : (mnDec caps h).1) : ∃ d, caps = miE d ∧ BndP d ∧ (mnDec caps h).2 = (mns d.1 d.2).map mnV := by
  simp only [mnDec] at hc ⊢
  by_cases hx : ∃ d, caps = miE d
  · rw [dif_pos hx] at hc ⊢
    exact ⟨_, hx.choose_spec, hc, rfl⟩
  · rw [dif_neg hx] at hc; exact hc.elim
noncomputable def mnI : Nat → HSpec → HSpec := itS [8107, 8207] [] mnDec
theorem mnI_inv {l : Nat} {Y : HSpec} {args : List V} {h : Hp} (hc : ((mnI l Y).go args h).c) : ∃ d, args = .yld l :: miE d ∧ Loc Y [8107, 8207] [] ∧ (∀ k ∈ [8107, 8207], h k = { base := (h k).base, blks := [] }) ∧ BndP d ∧ (feed Y ((mns d.1 d.2).map mnV) h).1 ∧
    ((mnI l Y).go args h).v = .tup [] ∧ ((mnI l Y).go args h).h = hps ([8107, 8207].map fun k => (k, { base := (h k).base + 1000000, blks := [] })) (feed Y ((mns d.1 d.2).map mnV) h).2 := by
  obtain ⟨caps, rfl, h2, h3, h4, h5, h6, h7⟩ := its_inv hc
  obtain ⟨d, rfl, k1, k2⟩ := mnDec_inv h4
  rw [k2] at h5 h7
  exact ⟨d, rfl, h2, h3, k1, h5, h6, h7⟩
theorem kpMn : ∀ f S, tbl [(82, .heap clnS)] f = some (.heap S) → ∀ args h, (S.go args h).c → (h YS).blks = [] → (S.go args h).h YS = h YS := by
  intro f S hf args h hc hy
  simp only [tbl_cons, tbl_nil] at hf
  split at hf
  · cases hf
    rcases cln_inv hc with ⟨els, _, _, hgo⟩ | ⟨s, i, els, ty, fz, _, _, _, _, hgo⟩ <;> rw [hgo] <;> dsimp only <;> exact hpush_ys _ (by decide) _
  · cases hf
theorem cln_1 (L : List (Nat × Site)) (H : Hp) (els : List (List V)) : clnS.go [.sl 2 els] (hps L H) = ⟨els.length = 1, .osl 8207 (hnext (hps L H) 8207) 1 0 1 1, hpush (hps L H) 8207 { z := 2, els := els, ty := 34 }⟩ := by
  simp [clnS]
theorem cln_2 (S : Site) (L : List (Nat × Site)) (H : Hp) (b : Nat) (r : List V) (R : List Blk) : clnS.go [.osl 8207 b 1 0 1 1] (hps ((8107, S) :: (8207, { base := b, blks := { z := 2, els := [r], ty := 34 } :: R }) :: L) H) = ⟨True, .osl 8207 (b + (R.length + 1)) 1 0 1 1, hps ((8207, { base := b, blks := { z := 2, els := [r], ty := 34 } :: (R ++ [{ z := 2, els := [r], ty := 34 }]) }) :: (8107, S) :: (8207, { base := b, blks := { z := 2, els := [r], ty := 34 } :: R }) :: L) H⟩ := by
  simp [clnS, hget_hps, hnext, hpush_hps]
/-- Between two parts. -/
structure MnO (Y : HSpec) (FH : Hp) (a b : Sp) (b1 : Nat) where
  i : Nat
  H : Hp
  c : Nat
  hi : i ≤ 2
  hf : (feed Y ((mnR a b i).map mnV) H).1 ∧ (feed Y ((mnR a b i).map mnV) H).2 = FH
  hb : c ≤ b1 + i
/-- Before and behind the one dimension. -/
structure MnQ (FH H0 : Hp) (a : Sp) (b1 : Nat) where
  k : Bool
  H : Hp
  c : Nat
  bs : List Blk
  h0 : k = false → H = H0 ∧ c = b1 ∧ bs = [{ z := 2, els := [a.row], ty := 34 }]
  h1 : k = true → H = FH ∧ c ≤ b1 + 2 ∧ bs.length ≤ 3
def mnB (s : Sp) : Blk := { z := 2, els := [s.row], ty := 34, fz := true }
noncomputable abbrev E81 : Env := { P := Tryd.prog, fn := tbl [(82, .heap clnS)], own := [], key := 8100, nt := 114, frz := [(10, [66, 50008])] }
theorem b81 : IterBody E81 [] Tryd.f81 mnI := by
  intro l Y args h hc hyb hyf
  obtain ⟨⟨a, b⟩, rfl, hloc, hfr, ⟨⟨ha1, ha2⟩, ⟨hb1, hb2⟩⟩, hfd, hv, hh⟩ := mnI_inv hc
  simp only at ha1 ha2 hb1 hb2
  rw [hv, hh]
  clear hv hh hc
  have f1 := hfr 8107 (by simp)
  have f2 := hfr 8207 (by simp)
  obtain ⟨FH, hFH⟩ : ∃ FH, (feed Y ((mns a b).map mnV) h).2 = FH := ⟨_, rfl⟩
  rw [hFH]
  simp only [List.map_cons, List.map_nil]
  generalize hb1 : (h 8107).base = b1 at *
  generalize hb2 : (h 8207).base = b2 at *
  have hself : hps [(8107, { base := b1, blks := [] }), (8207, { base := b2, blks := [] })] h = h := hps_self (by
    intro k hk
    simp at hk
    rcases hk with rfl | rfl
    · rw [f1]; rfl
    · rw [f2]; rfl)
  rw [← hself]
  simp -dsimp [Tryd.f81, E81, miE, Sp.row]
  repeat' (first | omega | (simp -dsimp [E81, ri, cellp, ints, miE, Sp.row, cln_1]) | (refine Also.intro ?_ fun _ => ?_) | (refine Hold.intro fun _ => ?_) | (refine And.intro ?_ ?_))
  refine awp_loop [14, 15, 5, 16, 17, 18, 19, 20, 21, 22, 23, 24, 25, 26, 27, 28, 29, 30, 31, 32, 33, 34, 35, 36, 37, 38, 39, 40, 41, 42, 43, 44, 45, 46, 47, 48, 49, 50, 51, 52, 53, 54, 55, 7, 56, 57, 58, 59, 60, 61, 62, 8, 63, 64, 65, 66, 67, 68, 69, 70, 71, 72, 73, 74, 75, 76, 77, 78, 79, 80, 81, 82, 83, 84, 85, 86, 87, 88, 89, 90, 91, 92, 93, 94, 95, 96, 97, 98, 99, 100, 101, 102, 103, 104, 105, 106, 107, 108, 109, 110, 111, 112, 113, 13] (fun q : MnQ FH h a b1 => [(13, (true, .int .i64 (if q.k then 1 else 0)))])
    (fun q => hps [(8107, { base := q.c, blks := [] }), (8207, { base := b2, blks := q.bs })] q.H) (fun q => if q.k then 0 else 1) { k := false, H := h, c := b1, bs := [{ z := 2, els := [a.row], ty := 34 }], h0 := fun _ => ⟨rfl, rfl, rfl⟩, h1 := fun e => by cases e } ?_ ?_ ?_
  · simp [okAll, okv]
  · exact (by (try simp -dsimp only [hpush_noH, hpush_hps, hps_over]); refine hle_hpsb ?_; simp -dsimp [allK, Sp.row]; repeat' (first | (refine And.intro ?_ ?_) | (refine sLe.same ?_ ?_ <;> (simp; done)) | (refine sLe.clear ?_ ?_ <;> (first | (simp; done) | (simp; omega))) | (refine sLe.drop 1 ?_ ?_ ?_ <;> (simp; done))))
  rintro ⟨k, H, c, bs, h0, h1⟩
  dsimp only
  cases k
  case true =>
    obtain ⟨rfl, hcb, hbl⟩ := h1 rfl
    simp -dsimp []
    repeat' (first | omega | (simp -dsimp [E81, ri, cellp, ints, *]) | (refine Also.intro ?_ fun _ => ?_) | (refine Hold.intro fun _ => ?_) | (refine And.intro ?_ ?_))
    exact (by (try simp -dsimp only [hpush_noH, hpush_hps, hps_over]); refine hle_hpsb ?_; simp -dsimp [allK, ]; repeat' (first | (refine And.intro ?_ ?_) | (refine sLe.same ?_ ?_ <;> (simp; done)) | (refine sLe.clear ?_ ?_ <;> (first | (simp; done) | (simp; omega))) | (refine sLe.drop 1 ?_ ?_ ?_ <;> (simp; done))))
  obtain ⟨e1, e2, e3⟩ := h0 rfl
  subst e1 e2 e3
  have w1 : IntKind.wrap .i64 (b.lo - 1) = b.lo - 1 := wrap_id (by omega) (by omega)
  have w2 : IntKind.wrap .i64 (b.hi + 1) = b.hi + 1 := wrap_id (by omega) (by omega)
  obtain ⟨x, hx⟩ : ∃ x, (if b.lo - 1 < a.hi then b.lo - 1 else a.hi) = x := ⟨_, rfl⟩
  obtain ⟨y, hy⟩ : ∃ y, (if a.lo < b.hi + 1 then b.hi + 1 else a.lo) = y := ⟨_, rfl⟩
  have ex : min a.hi (b.lo - 1) = x := by rw [← hx]; split <;> omega
  have ey : max a.lo (b.hi + 1) = y := by rw [← hy]; split <;> omega
  simp -dsimp []
  repeat' (first | omega | (simp -dsimp [E81, ri, cellp, ints, w1, w2, hx, hy, Sp.row]) | (refine Also.intro ?_ fun _ => ?_) | (refine Hold.intro fun _ => ?_) | (refine And.intro ?_ ?_))
  refine awp_loop [54, 55, 7, 56, 57, 58, 59, 60, 61, 62, 8, 63, 64, 65, 66, 67, 68, 69, 70, 71, 53] (fun q : MnO Y FH a b c => [(53, (true, .int .i64 (q.i : Nat)))])
    (fun q => hps [(8107, { base := q.c, blks := [] }), (8207, { base := b2, blks := { z := 2, els := [a.row], ty := 34 } :: (mnD a b q.i).map mnB })] q.H) (fun q => 2 - q.i) { i := 0, H := H, c := c, hi := by omega, hf := ⟨hfd, hFH⟩, hb := by omega } ?_ ?_ ?_
  · simp [okAll, okv]
  · exact (by (try simp -dsimp only [hpush_noH, hpush_hps, hps_over]); refine hle_hpsb ?_; simp -dsimp [allK, mnD, Sp.row]; repeat' (first | (refine And.intro ?_ ?_) | (refine sLe.same ?_ ?_ <;> (simp; done)) | (refine sLe.clear ?_ ?_ <;> (first | (simp; done) | (simp; omega))) | (refine sLe.drop 1 ?_ ?_ ?_ <;> (simp; done))))
  rintro ⟨i, H', c', hi, ⟨hfd', hFH'⟩, hcc⟩
  dsimp only
  have hir : i = 2 ∨ i = 0 ∨ i = 1 := by omega
  rcases hir with rfl | rfl | rfl
  · have he : feed Y ((mnR a b 2).map mnV) H' = (True, H') := rfl
    rw [he] at hFH'
    subst hFH'
    have hl : (mnD a b 2).length ≤ 2 := mns_len a b
    obtain ⟨u, hu⟩ : ∃ u, (if a.lo < b.lo then b.lo else a.lo) = u := ⟨_, rfl⟩
    obtain ⟨v, hv⟩ : ∃ v, (if b.hi < a.hi then b.hi else a.hi) = v := ⟨_, rfl⟩
    have wone : IntKind.wrap .i64 1 = 1 := wrap_id (by omega) (by omega)
    generalize mnD a b 2 = D at *
    by_cases huv : v < u
    · simp -dsimp []
      repeat' (first | omega | (simp -dsimp [E81, ri, cellp, ints, hu, hv, huv, wone, Sp.row]) | (refine Also.intro ?_ fun _ => ?_) | (refine Hold.intro fun _ => ?_) | (refine And.intro ?_ ?_))
      exact (by (try simp -dsimp only [hpush_noH, hpush_hps, hps_over]); refine hle_hpsb ?_; simp -dsimp [allK, ]; repeat' (first | (refine And.intro ?_ ?_) | (refine sLe.same ?_ ?_ <;> (simp; done)) | (refine sLe.clear ?_ ?_ <;> (first | (simp; done) | (simp; omega))) | (refine sLe.drop 1 ?_ ?_ ?_ <;> (simp; done))))
    · have huv' : (v < u) = False := eq_false huv
      simp -dsimp []
      repeat' (first | omega | (simp -dsimp [E81, ri, cellp, ints, hu, hv, huv', wone, Sp.row]) | (refine Also.intro ?_ fun _ => ?_) | (refine Hold.intro fun _ => ?_) | (refine And.intro ?_ ?_))
      refine ⟨{ k := true, H := H', c := c', bs := { z := 2, els := [[V.int .i64 u, V.int .i64 v]], ty := 34 } :: D.map mnB, h0 := fun e => (by cases e), h1 := fun _ => ⟨rfl, by omega, by simp; omega⟩ }, tle_kept (kept_upds rfl (kept_forget rfl (kept_upds rfl kept_base))) ?_, (by (try simp -dsimp only [hpush_noH, hpush_hps, hps_over]); refine hle_hpsb ?_; simp -dsimp [allK, ]; repeat' (first | (refine And.intro ?_ ?_) | (refine sLe.same ?_ ?_ <;> (simp; done)) | (refine sLe.clear ?_ ?_ <;> (first | (simp; done) | (simp; omega))) | (refine sLe.drop 1 ?_ ?_ ?_ <;> (simp; done)))), by simp⟩
      simp [okAll, okv]
  · have m1 : mn1 a b = if a.lo ≤ x then [⟨a.lo, x⟩] else [] := by rw [mn1, ex]
    have wone : IntKind.wrap .i64 1 = 1 := wrap_id (by omega) (by omega)
    have hR : mnR a b 0 = mn1 a b ++ mnR a b 1 := rfl
    have hD : mnD a b 1 = mn1 a b := rfl
    have hD0 : mnD a b 0 = [] := rfl
    by_cases hc : a.lo ≤ x
    case neg =>
      rw [if_neg hc] at m1
      rw [m1, List.nil_append] at hR
      rw [m1] at hD
      rw [hR] at hfd' hFH'
      have hc' : (x < a.lo) = True := eq_true (by omega)
      simp -dsimp []
      repeat' (first | omega | (simp -dsimp [E81, ri, cellp, ints, hc', wone, hD0]) | (refine Also.intro ?_ fun _ => ?_) | (refine Hold.intro fun _ => ?_) | (refine And.intro ?_ ?_))
      refine ⟨{ i := 1, H := H', c := c' + 1, hi := by omega, hf := ⟨hfd', hFH'⟩, hb := by omega }, tle_chain rfl ?_, (by (try simp -dsimp only [hpush_noH, hpush_hps, hps_over]); refine hle_hpsb ?_; simp -dsimp [allK, hD, hD0, Sp.row]; repeat' (first | (refine And.intro ?_ ?_) | (refine sLe.same ?_ ?_ <;> (simp; done)) | (refine sLe.clear ?_ ?_ <;> (first | (simp; done) | (simp; omega))) | (refine sLe.drop 1 ?_ ?_ ?_ <;> (simp; done)))), by simp⟩
      simp [okAll, okv, wone]
    rw [if_pos hc] at m1
    rw [m1] at hR hD
    rw [hR, List.cons_append, List.nil_append, List.map_cons] at hfd' hFH'
    have hc' : (x < a.lo) = False := eq_false (by omega)
    obtain ⟨hyc, bb, hyv, ht, hf⟩ := feed_step hfd'
    obtain ⟨H2, hH2⟩ : ∃ H2, (Y.go (mnV ⟨a.lo, x⟩) H').h = H2 := ⟨_, rfl⟩
    rw [hH2] at hf ht
    have hgo : ∀ S1 S2 S3, Y.go (mnV ⟨a.lo, x⟩) (hps [(8207, S1), (8107, S2), (8207, S3)] H') = ⟨True, .bool bb, hps [(8207, S1), (8107, S2), (8207, S3)] H2⟩ := fun S1 S2 S3 => by
      have := hloc.go hyc hyv [(8207, S1), (8107, S2), (8207, S3)]
      rw [hH2] at this; exact this
    simp only [mnV, Sp.row] at hgo
    have hlt : (b2 + 1 < b2) = False := eq_false (by omega)
    have hsub : b2 + 1 - b2 = 1 := by omega
    cases bb with
    | false =>
      rw [hf rfl] at hFH'
      subst hFH'
      simp -dsimp []
      repeat' (first | omega | (simp -dsimp [E81, ri, cellp, ints, hc', wone, hD0, cln_2, hgo, hlt, hsub, Sp.row]) | (refine Also.intro ?_ fun _ => ?_) | (refine Hold.intro fun _ => ?_) | (refine And.intro ?_ ?_))
      exact (by (try simp -dsimp only [hpush_noH, hpush_hps, hps_over]); refine hle_hpsb ?_; simp -dsimp [allK, ]; repeat' (first | (refine And.intro ?_ ?_) | (refine sLe.same ?_ ?_ <;> (simp; done)) | (refine sLe.clear ?_ ?_ <;> (first | (simp; done) | (simp; omega))) | (refine sLe.drop 1 ?_ ?_ ?_ <;> (simp; done))))
    | true =>
      obtain ⟨hf1, hf2⟩ := ht rfl
      rw [hf2] at hFH'
      simp -dsimp []
      repeat' (first | omega | (simp -dsimp [E81, ri, cellp, ints, hc', wone, hD0, cln_2, hgo, hlt, hsub, Sp.row]) | (refine Also.intro ?_ fun _ => ?_) | (refine Hold.intro fun _ => ?_) | (refine And.intro ?_ ?_))
      refine ⟨{ i := 1, H := H2, c := c' + 1, hi := by omega, hf := ⟨hf1, hFH'⟩, hb := by omega }, tle_chain rfl ?_, (by (try simp -dsimp only [hpush_noH, hpush_hps, hps_over]); refine hle_hpsb ?_; simp -dsimp [allK, hD, mnB, Sp.row]; repeat' (first | (refine And.intro ?_ ?_) | (refine sLe.same ?_ ?_ <;> (simp; done)) | (refine sLe.clear ?_ ?_ <;> (first | (simp; done) | (simp; omega))) | (refine sLe.drop 1 ?_ ?_ ?_ <;> (simp; done)))), by simp⟩
      simp [okAll, okv, wone]
  · have m1 : mn1 a b = if a.lo ≤ x then [⟨a.lo, x⟩] else [] := by rw [mn1, ex]
    have m2 : mn2 a b = if y ≤ a.hi then [⟨y, a.hi⟩] else [] := by rw [mn2, ey]
    have wone : IntKind.wrap .i64 (1 + 1) = 2 := wrap_id (by omega) (by omega)
    have wtwo : IntKind.wrap .i64 2 = 2 := wrap_id (by omega) (by omega)
    have hR : mnR a b 1 = mn2 a b ++ mnR a b 2 := by simp [mnR]
    have hD0 : mnD a b 1 = mn1 a b := rfl
    have hD : mnD a b 2 = mn1 a b ++ mn2 a b := rfl
    have hlt : (b2 + 1 < b2) = False := eq_false (by omega)
    have hsub : b2 + 1 - b2 = 1 := by omega
    have hlt2 : (b2 + 2 < b2) = False := eq_false (by omega)
    have hsub2 : b2 + 2 - b2 = 2 := by omega
    obtain ⟨D, hDD, hDc⟩ : ∃ D, mn1 a b = D ∧ (D = [] ∨ ∃ s0, D = [s0]) := by
      refine ⟨_, rfl, ?_⟩
      rw [m1]; split
      · exact .inr ⟨_, rfl⟩
      · exact .inl rfl
    rw [hDD] at hD0 hD
    by_cases hc : y ≤ a.hi
    case neg =>
      rw [if_neg hc] at m2
      rw [m2, List.nil_append] at hR
      rw [m2, List.append_nil] at hD
      rw [hR] at hfd' hFH'
      have hc' : (a.hi < y) = True := eq_true (by omega)
      simp -dsimp []
      repeat' (first | omega | (simp -dsimp [E81, ri, cellp, ints, hc', wone, wtwo, hD0]) | (refine Also.intro ?_ fun _ => ?_) | (refine Hold.intro fun _ => ?_) | (refine And.intro ?_ ?_))
      refine ⟨{ i := 2, H := H', c := c' + 1, hi := by omega, hf := ⟨hfd', hFH'⟩, hb := by omega }, tle_chain rfl ?_, (by (try simp -dsimp only [hpush_noH, hpush_hps, hps_over]); refine hle_hpsb ?_; simp -dsimp [allK, hD, hD0, Sp.row]; repeat' (first | (refine And.intro ?_ ?_) | (refine sLe.same ?_ ?_ <;> (simp; done)) | (refine sLe.clear ?_ ?_ <;> (first | (simp; done) | (simp; omega))) | (refine sLe.drop 1 ?_ ?_ ?_ <;> (simp; done)))), by simp⟩
      simp [okAll, okv, wone, wtwo]
    rw [if_pos hc] at m2
    rw [m2] at hR hD
    rw [hR, List.cons_append, List.nil_append, List.map_cons] at hfd' hFH'
    have hc' : (a.hi < y) = False := eq_false (by omega)
    obtain ⟨hyc, bb, hyv, ht, hf⟩ := feed_step hfd'
    obtain ⟨H2, hH2⟩ : ∃ H2, (Y.go (mnV ⟨y, a.hi⟩) H').h = H2 := ⟨_, rfl⟩
    rw [hH2] at hf ht
    have hgo : ∀ S1 S2 S3, Y.go (mnV ⟨y, a.hi⟩) (hps [(8207, S1), (8107, S2), (8207, S3)] H') = ⟨True, .bool bb, hps [(8207, S1), (8107, S2), (8207, S3)] H2⟩ := fun S1 S2 S3 => by
      have := hloc.go hyc hyv [(8207, S1), (8107, S2), (8207, S3)]
      rw [hH2] at this; exact this
    simp only [mnV, Sp.row] at hgo
    cases bb with
    | false =>
      rw [hf rfl] at hFH'
      subst hFH'
      rcases hDc with rfl | ⟨s0, rfl⟩
      all_goals
        simp -dsimp []
        repeat' (first | omega | (simp -dsimp [E81, ri, cellp, ints, hc', wone, wtwo, hD0, cln_2, hgo, hlt, hsub, hlt2, hsub2, Sp.row, mnB]) | (refine Also.intro ?_ fun _ => ?_) | (refine Hold.intro fun _ => ?_) | (refine And.intro ?_ ?_))
        exact (by (try simp -dsimp only [hpush_noH, hpush_hps, hps_over]); refine hle_hpsb ?_; simp -dsimp [allK, ]; repeat' (first | (refine And.intro ?_ ?_) | (refine sLe.same ?_ ?_ <;> (simp; done)) | (refine sLe.clear ?_ ?_ <;> (first | (simp; done) | (simp; omega))) | (refine sLe.drop 1 ?_ ?_ ?_ <;> (simp; done))))
    | true =>
      obtain ⟨hf1, hf2⟩ := ht rfl
      rw [hf2] at hFH'
      rcases hDc with rfl | ⟨s0, rfl⟩
      all_goals
        simp -dsimp []
        repeat' (first | omega | (simp -dsimp [E81, ri, cellp, ints, hc', wone, wtwo, hD0, cln_2, hgo, hlt, hsub, hlt2, hsub2, Sp.row, mnB]) | (refine Also.intro ?_ fun _ => ?_) | (refine Hold.intro fun _ => ?_) | (refine And.intro ?_ ?_))
        refine ⟨{ i := 2, H := H2, c := c' + 1, hi := by omega, hf := ⟨hf1, hFH'⟩, hb := by omega }, tle_chain rfl ?_, (by (try simp -dsimp only [hpush_noH, hpush_hps, hps_over]); refine hle_hpsb ?_; simp -dsimp [allK, hD, mnB, Sp.row]; repeat' (first | (refine And.intro ?_ ?_) | (refine sLe.same ?_ ?_ <;> (simp; done)) | (refine sLe.clear ?_ ?_ <;> (first | (simp; done) | (simp; omega))) | (refine sLe.drop 1 ?_ ?_ ?_ <;> (simp; done)))), by simp⟩
        simp [okAll, okv, wone, wtwo]
theorem ok81 : FnOK Tryd.prog 81 (.iter mnI) := iter_fn (E := E81) rfl (.cons ok82 .nil) (ok := []) (fn := Tryd.f81) (by kernel_rfl) (by kernel_rfl) (by kernel_rfl) (fun _ _ => by kernel_rfl) rfl (fun l Y args h hc => by obtain ⟨_, rfl, _⟩ := mnI_inv hc; simp [miE]) kpMn b81
end Go.Sx
end
section
/- Parts: rest: what spans leave of spans. No conditions. -/
set_option linter.unusedSimpArgs false
set_option linter.unusedSectionVars false
set_option maxRecDepth 100000
set_option maxHeartbeats 8000000
namespace Go.Sx
open Go.Proofs
attribute [local irreducible] awp HLe

/-- What rest has so far. -/
def rsC (s : List Sp) : List (Nat × Site) := match s with
  | [] => [(3004, { base := 0, blks := [{ z := 1, els := [[.nil]], ty := 32 }] }), (3021, { base := 0, blks := [] })]
  | s => [(3004, { base := 0, blks := [{ z := 1, els := [[.bsl 3021 0 s.length]], ty := 32, cl := false }] }), (3021, { base := 0, blks := [{ z := 1, els := s.map mnV, ty := 35 }] })]
theorem rsC_keys (s : List Sp) : (rsC s).map (·.1) = [3004, 3021] := by cases s <;> rfl
theorem mnV_inj (a b : Sp) (h : mnV a = mnV b) : a = b := by
  simp only [mnV, List.cons.injEq, V.sl.injEq, true_and, and_true] at h
  exact Sp.row_inj _ _ h
theorem rsC_inj (s s' : List Sp) (h : ∀ k ∈ [3004, 3021], hps (rsC s) noH k = hps (rsC s') noH k) : s = s' := by
  have h2 := h 3021 (by simp)
  cases s with
  | nil =>
    cases s' with
    | nil => rfl
    | cons y s' => simp [rsC, hps] at h2
  | cons x s =>
    cases s' with
    | nil => simp [rsC, hps] at h2
    | cons y s' =>
      simp only [rsC, hps] at h2
      simp at h2
      have : (x :: s).map mnV = (y :: s').map mnV := by simp [h2]
      exact mapRow_inj mnV_inj this
def mnOf (x : List V) : Sp := ⟨((((x.getD 0 .top).rows.getD 0 []).getD 0 .top)).toInt, ((((x.getD 0 .top).rows.getD 0 []).getD 1 .top)).toInt⟩
theorem mnOf_V (s : Sp) : mnOf (mnV s) = s := rfl
abbrev rsPre (s : List Sp) (x : List V) : Prop := (∃ p, x = mnV p) ∧ s.length ≤ 100000000
theorem rs_run : ∀ (c s : List Sp), s.length + c.length ≤ 100000000 → (runS rsPre (fun _ _ => true) (fun s x => s ++ [mnOf x]) s (c.map mnV)).1 ∧ (runS rsPre (fun _ _ => true) (fun s x => s ++ [mnOf x]) s (c.map mnV)).2 = (true, s ++ c)
  | [], s, _ => ⟨trivial, by simp [runS]⟩
  | p :: c, s, h => by
    simp only [List.length_cons] at h
    obtain ⟨h1, h2⟩ := rs_run c (s ++ [p]) (by simp; omega)
    simp only [List.map_cons, runS, mnOf_V]
    exact ⟨⟨⟨⟨p, rfl⟩, by omega⟩, h1⟩, by rw [h2]; simp⟩
@[simp] def rsA (d : List Sp × Sp) : List V := [.sl 1 (d.1.map mnV), .sl 2 [d.2.row]]
theorem rsA_inj (a b : List Sp × Sp) (h : rsA a = rsA b) : a = b := by
  obtain ⟨a1, a2⟩ := a; obtain ⟨b1, b2⟩ := b
  simp only [rsA, List.cons.injEq, V.sl.injEq, true_and, and_true] at h
  rw [mapRow_inj mnV_inj h.1, Sp.row_inj _ _ h.2]
structure RsP (d : List Sp × Sp) : Prop where
  n : d.1.length ≤ 2000000
  l : ∀ s ∈ d.1, Bnd s
  b : Bnd d.2
noncomputable abbrev resS : PSpec := mkP rsA RsP fun d => .sl 1 ((rstS d.1 d.2).map mnV)
theorem rstS_take (l : List Sp) (b : Sp) {k : Nat} {s : Sp} (h : l[k]? = some s) : rstS (l.take (k + 1)) b = rstS (l.take k) b ++ mns s b := by
  rw [rstS, List.take_add_one, h]; simp [rstS]
noncomputable abbrev E30 : Env := { P := Tryd.prog, fn := tbl [(54, .pure minS), (81, .iter mnI)], own := [], key := 3000, nt := 24 }
theorem b30 : PureBody E30 [] Tryd.f30 resS := by
  refine pb ?_
  rintro ⟨l, b⟩ ⟨hn, hl, hb⟩
  simp only at hn hl hb
  simp -dsimp [Tryd.f30, E30, rsA, Sp.row]
  repeat' (first | omega | (simp -dsimp [E30, ri, cellp, ints, rsA, Sp.row]) | (refine Also.intro ?_ fun _ => ?_) | (refine Hold.intro fun _ => ?_) | (refine And.intro ?_ ?_))
  refine awp_loop [11, 12, 13, 6, 14, 15, 16, 7, 18, 19, 20, 21, 22, 10] (fun k : { k : Nat // k ≤ l.length } => [(10, (true, .int .i64 k.1))]) (fun k => hps (rsC (rstS (l.take k.1) b) ++ [(8107, { base := k.1 * 1000000, blks := [] }), (8207, { base := k.1 * 1000000, blks := [] })]) noH) (fun k => l.length - k.1) ⟨0, by omega⟩ ?_ ?_ ?_
  · simp [okAll, okv]
  · simp -dsimp only [List.take_zero, rstS, List.flatMap_nil, rsC, List.cons_append, List.nil_append]
    exact (by (try simp -dsimp only [hpush_noH, hpush_hps, hps_over]); refine hle_hps ?_; simp -dsimp [allK, ]; repeat' (first | (refine And.intro ?_ ?_) | (refine sLe.same ?_ ?_ <;> (simp; done)) | (refine sLe.clear ?_ ?_ <;> (first | (simp; done) | (simp; omega))) | (refine sLe.drop 1 ?_ ?_ ?_ <;> (simp; done))))
  rintro ⟨k, hk⟩
  dsimp only
  by_cases hk1 : k < l.length
  · have hki : (k : Int) < l.length := by omega
    have wk : IntKind.wrap .i64 ((k : Int) + 1) = (k + 1 : Nat) := wrap_id (by omega) (by omega)
    obtain ⟨s, hs⟩ : ∃ s, l[k]? = some s := ⟨_, List.getElem?_eq_getElem hk1⟩
    have hs' : l[k] = s := (List.getElem?_eq_some_iff.1 hs).2
    have hsb := hl s (by rw [← hs']; exact List.getElem_mem hk1)
    have hT := rstS_take l b hs
    have hml := mns_len s b
    have hol := rstS_len (l.take k) b
    rw [List.length_take] at hol
    have hme := miA_dec s b
    obtain ⟨hr1, hr2⟩ := rs_run (mns s b) (rstS (l.take k) b) (by omega)
    generalize rstS (l.take k) b = out at *
    simp -dsimp [hki, mnV]
    repeat' (first | omega | (simp -dsimp [E30, ri, cellp, ints, hki, hk1, hs, hs', mnV, Sp.row, hme]) | (refine Also.intro ?_ fun _ => ?_) | (refine Hold.intro fun _ => ?_) | (refine And.intro ?_ ?_))
    refine awp_range (LC := rsC) (keys := [3004, 3021]) (pre := rsPre) (go := fun _ _ => true) (nxt := fun s x => s ++ [mnOf x]) rsC_inj rsC_keys out .normal ((mns s b).map mnV) (own := [8107, 8207]) (ro := []) (dec := mnDec) rfl (by simp; rfl) rfl (by decide) (by decide) (by decide) ?_ ?_ ?_ ?_ hr1 ?_ ?_ ?_
    · cases out <;> simp [hps, rsC, YS, noH]
    · intro k hk
      simp at hk
      rcases hk with rfl | rfl <;> cases out <;> simp [hps, rsC]
    · intro k hk
      simp at hk
      rcases hk with rfl | rfl <;> cases out <;> simp [hps, rsC]
    · rw [mnDec_at]
      exact ⟨⟨hsb, hb⟩, rfl⟩
    · rintro o x hb2 ⟨⟨p, rfl⟩, ho⟩ hy1 hy2
      refine ⟨rfl, ?_⟩
      rw [mnOf_V]
      cases o with
      | nil =>
        simp -dsimp [E30, setT, mnV, rsC, Sp.row]
        repeat' (first | omega | (simp -dsimp [E30, ri, cellp, ints, mnV, Sp.row]) | (refine Also.intro ?_ fun _ => ?_) | (refine Hold.intro fun _ => ?_) | (refine And.intro ?_ ?_))
        exact (by (try simp -dsimp only [hpush_noH, hpush_hps, hps_over]); refine hle_hpsb ?_; simp -dsimp [allK, ]; repeat' (first | (refine And.intro ?_ ?_) | (refine sLe.same ?_ ?_ <;> (simp; done)) | (refine sLe.clear ?_ ?_ <;> (first | (simp; done) | (simp; omega))) | (refine sLe.drop 1 ?_ ?_ ?_ <;> (simp; done))))
      | cons y o =>
        have hb16 : (o.length + 1 + 1) * 24 ≤ 140737488355328 := by simp at ho; omega
        simp -dsimp [E30, setT, mnV, rsC, Sp.row]
        repeat' (first | omega | (simp -dsimp [E30, ri, cellp, ints, mnV, Sp.row, hb16]) | (refine Also.intro ?_ fun _ => ?_) | (refine Hold.intro fun _ => ?_) | (refine And.intro ?_ ?_))
        exact (by (try simp -dsimp only [hpush_noH, hpush_hps, hps_over]); refine hle_hpsb ?_; simp -dsimp [allK, mnV, Sp.row]; repeat' (first | (refine And.intro ?_ ?_) | (refine sLe.same ?_ ?_ <;> (simp; done)) | (refine sLe.clear ?_ ?_ <;> (first | (simp; done) | (simp; omega))) | (refine sLe.drop 1 ?_ ?_ ?_ <;> (simp; done))))
    · intro _
      rw [hr2]
      generalize hw : out ++ mns s b = w at *
      cases w with
      | nil =>
        simp -dsimp [rsC, hps_app]
        repeat' (first | omega | (simp -dsimp [E30, ri, cellp, ints, rsC, wk]) | (refine Also.intro ?_ fun _ => ?_) | (refine Hold.intro fun _ => ?_) | (refine And.intro ?_ ?_))
        refine ⟨k + 1, tle_chain rfl ?_, ?_, by omega, by omega⟩
        · simp [okAll, okv]
        · rw [hT]
          cases out <;> simp -dsimp only [rsC, List.cons_append, List.nil_append, hps_over] <;> exact (by (try simp -dsimp only [hpush_noH, hpush_hps, hps_over]); refine hle_hps ?_; simp -dsimp [allK, Nat.add_mul]; repeat' (first | (refine And.intro ?_ ?_) | (refine sLe.same ?_ ?_ <;> (simp; done)) | (refine sLe.clear ?_ ?_ <;> (first | (simp; done) | (simp; omega))) | (refine sLe.drop 1 ?_ ?_ ?_ <;> (simp; done))))
      | cons y w =>
        simp -dsimp [rsC, hps_app]
        repeat' (first | omega | (simp -dsimp [E30, ri, cellp, ints, rsC, wk]) | (refine Also.intro ?_ fun _ => ?_) | (refine Hold.intro fun _ => ?_) | (refine And.intro ?_ ?_))
        refine ⟨k + 1, tle_chain rfl ?_, ?_, by omega, by omega⟩
        · simp [okAll, okv]
        · rw [hT]
          cases out <;> simp -dsimp only [rsC, List.cons_append, List.nil_append, hps_over] <;> exact (by (try simp -dsimp only [hpush_noH, hpush_hps, hps_over]); refine hle_hps ?_; simp -dsimp [allK, Nat.add_mul]; repeat' (first | (refine And.intro ?_ ?_) | (refine sLe.same ?_ ?_ <;> (simp; done)) | (refine sLe.clear ?_ ?_ <;> (first | (simp; done) | (simp; omega))) | (refine sLe.drop 1 ?_ ?_ ?_ <;> (simp; done))))
    · intro h
      rw [hr2] at h; cases h
  · have hkn : ¬ (k : Int) < l.length := by omega
    have hke : k = l.length := by omega
    subst hke
    rw [List.take_length]
    generalize rstS l b = out at *
    cases out with
    | nil =>
      simp -dsimp [hkn, rsC, hps_app]
      repeat' (first | omega | (simp -dsimp [E30, ri, cellp, ints, hkn, rsC]) | (refine Also.intro ?_ fun _ => ?_) | (refine Hold.intro fun _ => ?_) | (refine And.intro ?_ ?_))
    | cons y o =>
      simp -dsimp [hkn, rsC, hps_app]
      repeat' (first | omega | (simp -dsimp [E30, ri, cellp, ints, hkn, rsC, mnV, lendRs]) | (refine Also.intro ?_ fun _ => ?_) | (refine Hold.intro fun _ => ?_) | (refine And.intro ?_ ?_))
theorem ok30 : FnOK Tryd.prog 30 (.pure resS) := pure_fn (E := E30) rfl (.cons ok54 (.cons ok81 .nil)) (ok := []) (fn := Tryd.f30) (by kernel_rfl) (by kernel_rfl) (by kernel_rfl) (by kernel_rfl) rfl (fun _ _ => by simp) b30
end Go.Sx
end
section
/- Parts: the errors of boxes of one span. No conditions. -/
set_option linter.unusedSimpArgs false
set_option linter.unusedSectionVars false
set_option maxRecDepth 100000
set_option maxHeartbeats 4000000
namespace Go.Sx
open Go.Proofs
attribute [local irreducible] HLe

@[simp] def bxsE (l : List Sp) : List V := [.sl 1 (l.map mnV)]
theorem bxsE_inj (a b : List Sp) (h : bxsE a = bxsE b) : a = b := by
  simp only [bxsE, List.cons.injEq, V.sl.injEq, true_and, and_true] at h
  exact mapRow_inj mnV_inj h
structure ChP (l : List Sp) : Prop where
  n : l.length ≤ 1000000
  ok : ∀ s ∈ l, spN s = false
noncomputable abbrev chkS : PSpec := mkP bxsE ChP fun _ => .int .i64 0
noncomputable abbrev E29 : Env := { P := Tryd.prog, fn := tbl [(53, .pure bxkS)], own := [], key := 2900, nt := 34 }
theorem b29 : PureBody E29 [] Tryd.f29 chkS := by
  refine pb ?_
  rintro l ⟨hn, hok⟩
  simp -dsimp [Tryd.f29, E29]
  refine awp_loop [11, 12, 13, 4, 14, 15, 5, 16, 17, 18, 2, 19, 10] (fun k : { k : Nat // k ≤ l.length } => [(10, (true, .int .i64 k.1)), (2, (true, .int .i64 0))]) (fun _ => noH) (fun k => l.length - k.1) ⟨0, by omega⟩ ?_ (HLe.refl _) ?_
  · simp [okAll, okv]
  rintro ⟨k, hk⟩
  dsimp only
  by_cases hk1 : k < l.length
  · have hki : (k : Int) < l.length := by omega
    have wk : IntKind.wrap .i64 ((k : Int) + 1) = (k + 1 : Nat) := wrap_id (by omega) (by omega)
    obtain ⟨s, hs⟩ : ∃ s, l[k]? = some s := ⟨_, List.getElem?_eq_getElem hk1⟩
    have hs' : l[k] = s := (List.getElem?_eq_some_iff.1 hs).2
    have hsb := hok s (by rw [← hs']; exact List.getElem_mem hk1)
    have hbx := slE_dec1 s
    simp -dsimp [hki]
    repeat' (first | omega | (simp -dsimp [E29, ri, cellp, ints, hki, hk1, wk, hs, hs', hsb, hbx, mnV, Sp.row]) | (refine Also.intro ?_ fun _ => ?_) | (refine Hold.intro fun _ => ?_) | (refine And.intro ?_ ?_))
    refine ⟨k + 1, tle_chain rfl ?_, HLe.refl _, by omega, by omega⟩
    simp [okAll, okv]
  · have hkn : ¬ (k : Int) < l.length := by omega
    have hke : k = l.length := by omega
    subst hke
    simp -dsimp [hkn]
    repeat' (first | omega | (simp -dsimp [E29, ri, cellp, ints, hkn]) | (refine Also.intro ?_ fun _ => ?_) | (refine Hold.intro fun _ => ?_) | (refine And.intro ?_ ?_))
    refine awp_loop [23, 24, 25, 7, 26, 27, 28, 29, 30, 31, 32, 2, 33, 22] (fun k : { k : Nat // k ≤ l.length } => [(22, (true, .int .i64 k.1)), (2, (true, .int .i64 0))]) (fun _ => noH) (fun k => l.length - k.1) ⟨0, by omega⟩ ?_ (HLe.refl _) ?_
    · simp [okAll, okv]
    rintro ⟨k, hk⟩
    dsimp only
    by_cases hk1 : k < l.length
    · have hki : (k : Int) < l.length := by omega
      have wk : IntKind.wrap .i64 ((k : Int) + 1) = (k + 1 : Nat) := wrap_id (by omega) (by omega)
      obtain ⟨s, hs⟩ : ∃ s, l[k]? = some s := ⟨_, List.getElem?_eq_getElem hk1⟩
      have hs' : l[k] = s := (List.getElem?_eq_some_iff.1 hs).2
      have h0 : 0 < l.length := by omega
      have h0i : (0 : Int) < l.length := by omega
      obtain ⟨s0, hs0⟩ : ∃ s0, l[0]? = some s0 := ⟨_, List.getElem?_eq_getElem h0⟩
      have hs0' : l[0] = s0 := (List.getElem?_eq_some_iff.1 hs0).2
      simp -dsimp [hki]
      repeat' (first | omega | (simp -dsimp [E29, ri, cellp, ints, hki, hk1, wk, hs, hs', h0, h0i, hs0, hs0', mnV, Sp.row]) | (refine Also.intro ?_ fun _ => ?_) | (refine Hold.intro fun _ => ?_) | (refine And.intro ?_ ?_))
      refine ⟨k + 1, tle_chain rfl ?_, HLe.refl _, by omega, by omega⟩
      simp [okAll, okv]
    · have hkn : ¬ (k : Int) < l.length := by omega
      simp -dsimp [hkn]
      repeat' (first | omega | (simp -dsimp [E29, ri, cellp, ints, hkn]) | (refine Also.intro ?_ fun _ => ?_) | (refine Hold.intro fun _ => ?_) | (refine And.intro ?_ ?_))
theorem ok29 : FnOK Tryd.prog 29 (.pure chkS) := pure_fn (E := E29) rfl (.cons ok53 .nil) (ok := []) (fn := Tryd.f29) (by kernel_rfl) (by kernel_rfl) (by kernel_rfl) (by kernel_rfl) rfl (fun _ _ => by simp) b29
end Go.Sx
end
