/- What a seat's arguments read as. No conditions. -/
import Derived.Test.YtjnfgejicdnjnaaSxO
import Derived.Test.YtjnfgejicdnjnaaSxHn
set_option linter.unusedSimpArgs false
set_option linter.unusedVariables false
set_option maxRecDepth 100000
namespace Go.Sx
open Go.Proofs Go.RowKit

section
variable {P : Program} {g : Nat} {t : TypeId} {vs : List V}
theorem tyV_fld {k o : Nat} {ft : TypeId} (h : tyV P (g + 1) t vs) (hf : fld P t k = some (o, ft)) : tyV P g ft ((vs.drop o).take (P.cellsOf ft)) := by
  simp only [tyV] at h
  unfold fld at hf
  cases hu : P.underlying t with
  | none => simp [hu] at hf
  | some u =>
    rw [hu] at h hf
    cases u <;> simp only at h hf <;> try (cases hf; done)
    rename_i fs
    cases hk : fs[k]? with
    | none => simp [hk] at hf
    | some fl =>
      simp only [hk, Option.map_some, Option.some.injEq, Prod.mk.injEq] at hf
      obtain ⟨rfl, rfl⟩ := hf
      exact h.2 fl (Array.mem_toList_iff.2 (Array.mem_of_getElem? hk))
theorem tyV_len (h : tyV P (g + 1) t vs) (ha : isAg P t = true) : vs.length = P.cellsOf t := by
  simp only [tyV] at h
  unfold isAg at ha
  cases hu : P.underlying t with
  | none => simp [hu] at ha
  | some u =>
    rw [hu] at h ha
    cases u <;> simp only at h ha <;> first | (cases ha; done) | exact h.1
theorem tyV_int {k : IntKind} (h : tyV P (g + 1) t vs) (hk : intK P t = some k) : ∃ n, vs = [.int k n] ∧ (Lit.int k n).wf = true := by
  simp only [tyV] at h
  unfold intK at hk
  cases hu : P.underlying t with
  | none => simp [hu] at hk
  | some u =>
    rw [hu] at h hk
    cases u <;> simp only at h hk <;> try (cases hk; done)
    cases hk
    exact h
theorem tyV_sl {e : TypeId} (h : tyV P (g + 1) t vs) (hk : slEl P t = some e) : ∃ els, vs = [.sl (P.cellsOf e) els] ∧ els.length ≤ 9223372036854775807 ∧ ∀ row ∈ els, tyV P g e row := by
  simp only [tyV] at h
  unfold slEl at hk
  cases hu : P.underlying t with
  | none => simp [hu] at hk
  | some u =>
    rw [hu] at h hk
    cases u <;> simp only at h hk <;> try (cases hk; done)
    cases hk
    obtain ⟨els, h1, h2, _, h3⟩ := h
    exact ⟨els, h1, by simpa [maxLen] using h2, h3⟩
/-- The same, with the bound of memory. -/
theorem tyV_slw {e : TypeId} (h : tyV P (g + 1) t vs) (hk : slEl P t = some e) : ∃ els, vs = [.sl (P.cellsOf e) els] ∧ els.length * P.bytesOf e ≤ 140737488351232 ∧ ∀ row ∈ els, tyV P g e row := by
  simp only [tyV] at h
  unfold slEl at hk
  cases hu : P.underlying t with
  | none => simp [hu] at hk
  | some u =>
    rw [hu] at h hk
    cases u <;> simp only at h hk <;> try (cases hk; done)
    cases hk
    obtain ⟨els, h1, _, h2, h3⟩ := h
    exact ⟨els, h1, by simpa [reachBytes] using h2, h3⟩
theorem tyV_arr {n : Nat} {e : TypeId} (h : tyV P (g + 1) t vs) (hk : arEl P t = some (n, e)) : ∀ i, i < n → tyV P g e ((vs.drop (i * P.cellsOf e)).take (P.cellsOf e)) := by
  simp only [tyV] at h
  unfold arEl at hk
  cases hu : P.underlying t with
  | none => simp [hu] at hk
  | some u =>
    rw [hu] at h hk
    cases u <;> simp only at h hk <;> try (cases hk; done)
    cases hk
    exact h.2
theorem argTy_one {x : V} (h : argTy P g t x) (ha : isAg P t = false) : tyV P g t [x] := by
  unfold argTy at h; rw [if_neg (by rw [ha]; decide)] at h; exact h
theorem argTy_agg {x : V} (h : argTy P g t x) (ha : isAg P t = true) : ∃ vs, x = .agg vs ∧ tyV P g t vs := by
  unfold argTy at h; rw [if_pos ha] at h; exact h
end

theorem int_cell {g : Nat} {vs : List V} (h : tyV Try.prog (g + 1) 3 vs) : ∃ n, vs = [.int .i64 n] := by
  obtain ⟨n, h1, _⟩ := tyV_int h Ty.ik3
  exact ⟨n, h1⟩
theorem ints_cell {g : Nat} {vs : List V} (h : tyV Try.prog (g + 2) 22 vs) : ∃ l : List Int, vs = [ints l] ∧ l.length ≤ 9223372036854775807 := by
  obtain ⟨els, h1, h2, h3⟩ := tyV_sl h Ty.se22
  obtain ⟨l, hl⟩ := rows_map (R := ri) (els := els) (fun row hr => int_cell (h3 row hr))
  subst hl
  rw [Ty.cz3] at h1
  exact ⟨l, h1, by simpa using h2⟩
theorem int_of {g : Nat} {x : V} (h : argTy Try.prog (g + 1) 3 x) : ∃ n, x = .int .i64 n := by
  obtain ⟨n, h1⟩ := int_cell (argTy_one h Ty.ag3)
  exact ⟨n, by simpa using h1⟩
theorem ints_of {g : Nat} {x : V} (h : argTy Try.prog (g + 2) 22 x) : ∃ l : List Int, x = ints l ∧ l.length ≤ 9223372036854775807 := by
  obtain ⟨l, h1, h2⟩ := ints_cell (argTy_one h Ty.ag22)
  exact ⟨l, by simpa using h1, h2⟩
theorem lv_of {g : Nat} {x : V} (h : argTy Try.prog (g + 2) 31 x) : ∃ d : LvD, x = lvV d := by
  obtain ⟨vs, e, k⟩ := argTy_agg h Ty.ag31
  subst e
  have hl := tyV_len k Ty.ag31
  rw [Ty.cz31] at hl
  obtain ⟨n0, e0⟩ := int_cell (tyV_fld k Ty.fd31_0)
  obtain ⟨n1, e1⟩ := int_cell (tyV_fld k Ty.fd31_1)
  obtain ⟨n2, e2⟩ := int_cell (tyV_fld k Ty.fd31_2)
  obtain ⟨n3, e3⟩ := int_cell (tyV_fld k Ty.fd31_3)
  rw [Ty.cz3] at e0 e1 e2 e3
  match vs, hl with
  | [a, b, c, d], _ =>
    simp at e0 e1 e2 e3
    subst e0 e1 e2 e3
    exact ⟨⟨n0, n1, n2, n3⟩, rfl⟩
theorem lim_of {g : Nat} {x : V} (h : argTy Try.prog (g + 2) 35 x) : ∃ d : LimD, x = limV d := by
  obtain ⟨vs, e, k⟩ := argTy_agg h Ty.ag35
  subst e
  have hl := tyV_len k Ty.ag35
  rw [Ty.cz35] at hl
  obtain ⟨n0, e0⟩ := int_cell (tyV_fld k Ty.fd35_0)
  obtain ⟨n1, e1⟩ := int_cell (tyV_fld k Ty.fd35_1)
  obtain ⟨n2, e2⟩ := int_cell (tyV_fld k Ty.fd35_2)
  rw [Ty.cz3] at e0 e1 e2
  match vs, hl with
  | [a, b, c], _ =>
    simp at e0 e1 e2
    subst e0 e1 e2
    exact ⟨⟨n0, n1, n2⟩, rfl⟩
theorem tab_of {g : Nat} {x : V} (h : argTy Try.prog (g + 3) 38 x) : ∃ t : List (List Int), x = tabV t ∧ tabPre t := by
  obtain ⟨els, h1, h2, h3⟩ := tyV_sl (argTy_one h Ty.ag38) Ty.se38
  have : ∃ t : List { l : List Int // l.length ≤ 9223372036854775807 }, els = t.map fun l => rl l.1 := by
    refine rows_map (R := fun l : { l : List Int // l.length ≤ 9223372036854775807 } => rl l.1) (els := els) fun row hr => ?_
    obtain ⟨l, e1, e2⟩ := ints_cell (h3 row hr)
    exact ⟨⟨l, e2⟩, e1⟩
  obtain ⟨t, ht⟩ := this
  subst ht
  refine ⟨t.map (·.1), ?_, by simpa using h2, ?_⟩
  · have : x = V.sl (Try.prog.cellsOf 22) (t.map fun l => rl l.1) := by simpa using h1
    rw [this, Ty.cz22, tabV, List.map_map]
    rfl
  · intro r hr
    obtain ⟨l, _, rfl⟩ := List.mem_map.1 hr
    exact l.2
theorem cells_of {g : Nat} {x : V} (h : argTy Try.prog (g + 3) 39 x) : ∃ l : List (Int × Int), x = .sl 2 (l.map rowC) ∧ l.length ≤ 9223372036854775807 := by
  obtain ⟨els, h1, h2, h3⟩ := tyV_sl (argTy_one h Ty.ag39) Ty.se39
  obtain ⟨l, hl⟩ := rows_map (R := rowC) (els := els) (fun row hr => by
    have h4 := h3 row hr
    have hlen := tyV_len h4 Ty.ag69
    rw [Ty.cz69] at hlen
    obtain ⟨n0, e0⟩ := int_cell (tyV_arr h4 Ty.ae69 0 (by decide))
    obtain ⟨n1, e1⟩ := int_cell (tyV_arr h4 Ty.ae69 1 (by decide))
    rw [Ty.cz3] at e0 e1
    match row, hlen with
    | [a, b], _ =>
      simp at e0 e1
      subst e0 e1
      exact ⟨(n0, n1), rfl⟩)
  subst hl
  rw [Ty.cz69] at h1
  exact ⟨l, by simpa using h1, by simpa using h2⟩
def szV (d : Int × Int) : V := .agg [.int .i64 d.1, .int .i64 d.2]
theorem sz_of {g : Nat} {x : V} (h : argTy Try.prog (g + 2) 45 x) : ∃ d : Int × Int, x = szV d := by
  obtain ⟨vs, e, k⟩ := argTy_agg h Ty.ag45
  subst e
  have hl := tyV_len k Ty.ag45
  rw [Ty.cz45] at hl
  obtain ⟨n0, e0⟩ := int_cell (tyV_fld k Ty.fd45_0)
  obtain ⟨n1, e1⟩ := int_cell (tyV_fld k Ty.fd45_1)
  rw [Ty.cz3] at e0 e1
  match vs, hl with
  | [a, b], _ =>
    simp at e0 e1
    subst e0 e1
    exact ⟨(n0, n1), rfl⟩
def vibV (d : List Int × List Int) : V := .agg [ints d.1, ints d.2]
theorem vib_of {g : Nat} {x : V} (h : argTy Try.prog (g + 3) 52 x) : ∃ d : List Int × List Int, x = vibV d ∧ d.1.length ≤ 9223372036854775807 ∧ d.2.length ≤ 9223372036854775807 := by
  obtain ⟨vs, e, k⟩ := argTy_agg h Ty.ag52
  subst e
  have hl := tyV_len k Ty.ag52
  rw [Ty.cz52] at hl
  obtain ⟨n0, e0, b0⟩ := ints_cell (tyV_fld k Ty.fd52_0)
  obtain ⟨n1, e1, b1⟩ := ints_cell (tyV_fld k Ty.fd52_1)
  rw [Ty.cz22] at e0 e1
  match vs, hl with
  | [a, b], _ =>
    simp at e0 e1
    subst e0 e1
    exact ⟨(n0, n1), rfl, b0, b1⟩
theorem ints_cellw {g : Nat} {vs : List V} (h : tyV Try.prog (g + 2) 22 vs) : ∃ l : List Int, vs = [ints l] ∧ l.length ≤ 17592186044416 := by
  obtain ⟨els, h1, h2, h3⟩ := tyV_slw h Ty.se22
  obtain ⟨l, hl⟩ := rows_map (R := ri) (els := els) (fun row hr => int_cell (h3 row hr))
  subst hl
  rw [Ty.cz3] at h1
  rw [Ty.by3, List.length_map] at h2
  exact ⟨l, h1, by omega⟩
theorem cause_of {g : Nat} {x : V} (h : argTy Try.prog (g + 3) 65 x) : ∃ d : List Int × List Int, x = vibV d ∧ d.1.length ≤ 17592186044416 ∧ d.2.length ≤ 17592186044416 := by
  obtain ⟨vs, e, k⟩ := argTy_agg h Ty.ag65
  subst e
  have hl := tyV_len k Ty.ag65
  rw [Ty.cz65] at hl
  obtain ⟨n0, e0, b0⟩ := ints_cellw (tyV_fld k Ty.fd65_0)
  obtain ⟨n1, e1, b1⟩ := ints_cellw (tyV_fld k Ty.fd65_1)
  rw [Ty.cz22] at e0 e1
  match vs, hl with
  | [a, b], _ =>
    simp at e0 e1
    subst e0 e1
    exact ⟨(n0, n1), rfl, b0, b1⟩
end Go.Sx
