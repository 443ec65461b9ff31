/- A part of a proof; no conditions. -/
import Derived.Test.YtjpmoggimhmidaaGreatP53
import Derived.Test.YtjpmoggimhmidaaGreatP51
set_option linter.unusedSimpArgs false
set_option linter.unusedVariables false
set_option linter.unusedSectionVars false
section
/- What arguments read as, for any seat. No conditions. -/
set_option linter.unusedSimpArgs false
set_option maxRecDepth 100000
namespace Go.Sx
open Go.RowKit
variable [Gls]

section
variable {P : Program} {g : Nat} {t : TypeId} {vs : List V}
theorem tyV_fld {k o : Nat} {ft : TypeId} (h : tyV P (g + 1) t vs) (hf : fld P t k = some (o, ft)) : tyV P g ft ((vs.drop o).take (P.cellsOf ft)) := by
  simp only [tyV] at h
  unfold fld at hf
  cases hu : P.underlying t with
  | none => simp [hu] at hf
  | some u =>
    rw [hu] at h hf
    cases u <;> simp only at h hf <;> try (cases hf; done)
    rename_i fs
    cases hk : fs[k]? with
    | none => simp [hk] at hf
    | some fl =>
      simp only [hk, Option.map_some, Option.some.injEq, Prod.mk.injEq] at hf
      obtain ⟨rfl, rfl⟩ := hf
      exact h.2 fl (Array.mem_toList_iff.2 (Array.mem_of_getElem? hk))
theorem tyV_len (h : tyV P (g + 1) t vs) (ha : isAg P t = true) : vs.length = P.cellsOf t := by
  simp only [tyV] at h
  unfold isAg at ha
  cases hu : P.underlying t with
  | none => simp [hu] at ha
  | some u =>
    rw [hu] at h ha
    cases u <;> simp only at h ha <;> first | (cases ha; done) | exact h.1
theorem tyV_int {k : IntKind} (h : tyV P (g + 1) t vs) (hk : intK P t = some k) : ∃ n, vs = [.int k n] ∧ (Lit.int k n).wf = true := by
  simp only [tyV] at h
  unfold intK at hk
  cases hu : P.underlying t with
  | none => simp [hu] at hk
  | some u =>
    rw [hu] at h hk
    cases u <;> simp only at h hk <;> try (cases hk; done)
    cases hk
    exact h
theorem tyV_sl {e : TypeId} (h : tyV P (g + 1) t vs) (hk : slEl P t = some e) : ∃ els, vs = [.sl (P.cellsOf e) els] ∧ els.length ≤ 9223372036854775807 ∧ ∀ row ∈ els, tyV P g e row := by
  simp only [tyV] at h
  unfold slEl at hk
  cases hu : P.underlying t with
  | none => simp [hu] at hk
  | some u =>
    rw [hu] at h hk
    cases u <;> simp only at h hk <;> try (cases hk; done)
    cases hk
    obtain ⟨els, h1, h2, _, h3⟩ := h
    exact ⟨els, h1, by simpa [maxLen] using h2, h3⟩
/-- The same, with the bound of memory. -/
theorem tyV_slw {e : TypeId} (h : tyV P (g + 1) t vs) (hk : slEl P t = some e) : ∃ els, vs = [.sl (P.cellsOf e) els] ∧ els.length * P.bytesOf e ≤ 140737488351232 ∧ ∀ row ∈ els, tyV P g e row := by
  simp only [tyV] at h
  unfold slEl at hk
  cases hu : P.underlying t with
  | none => simp [hu] at hk
  | some u =>
    rw [hu] at h hk
    cases u <;> simp only at h hk <;> try (cases hk; done)
    cases hk
    obtain ⟨els, h1, _, h2, h3⟩ := h
    exact ⟨els, h1, by simpa [reachBytes] using h2, h3⟩
theorem tyV_arr {n : Nat} {e : TypeId} (h : tyV P (g + 1) t vs) (hk : arEl P t = some (n, e)) : ∀ i, i < n → tyV P g e ((vs.drop (i * P.cellsOf e)).take (P.cellsOf e)) := by
  simp only [tyV] at h
  unfold arEl at hk
  cases hu : P.underlying t with
  | none => simp [hu] at hk
  | some u =>
    rw [hu] at h hk
    cases u <;> simp only at h hk <;> try (cases hk; done)
    cases hk
    exact h.2
theorem argTy_one {x : V} (h : argTy P g t x) (ha : isAg P t = false) : tyV P g t [x] := by
  unfold argTy at h; rw [if_neg (by rw [ha]; decide)] at h; exact h
theorem argTy_agg {x : V} (h : argTy P g t x) (ha : isAg P t = true) : ∃ vs, x = .agg vs ∧ tyV P g t vs := by
  unfold argTy at h; rw [if_pos ha] at h; exact h
end

end Go.Sx
end
section
/- CrewLifts: what the arguments of the law read as. No conditions. -/
set_option linter.unusedSimpArgs false
set_option linter.unusedSectionVars false
set_option maxRecDepth 100000
namespace Go.Sx.Rot
open Go.Proofs Go.RowKit Go.Sx Go.Sx.Tab

theorem int_cell {g : Nat} {vs : List V} (h : tyV Tryz.prog (g + 1) 3 vs) : ∃ n, vs = [.int .i64 n] := by
  obtain ⟨n, h1, _⟩ := tyV_int h Ty.ik3; exact ⟨n, h1⟩
theorem tyV_bool {P : Program} {g : Nat} {t : TypeId} {vs : List V} (h : tyV P (g + 1) t vs) (hk : P.underlying t = some .bool) : ∃ b, vs = [.bool b] := by
  simp only [tyV, hk] at h; exact h
theorem bool_cell {g : Nat} {vs : List V} (h : tyV Tryz.prog (g + 1) 4 vs) : ∃ n, vs = [.bool n] := tyV_bool h (by kernel_rfl)
theorem int_of {g : Nat} {x : V} (h : argTy Tryz.prog (g + 1) 3 x) : ∃ n, x = .int .i64 n := by
  obtain ⟨n, h1⟩ := int_cell (argTy_one h Ty.ag3)
  exact ⟨n, by simpa using h1⟩
theorem ints_cell {g : Nat} {vs : List V} (h : tyV Tryz.prog (g + 2) 22 vs) : ∃ l : List Int, vs = [ints l] := by
  obtain ⟨els, h1, _, h3⟩ := tyV_slw h Ty.se22
  obtain ⟨l, hl⟩ := rows_map (R := ri) (els := els) (fun row hr => int_cell (h3 row hr))
  subst hl
  rw [Ty.cz3] at h1
  exact ⟨l, h1⟩
theorem rws_cell {g : Nat} {vs : List V} (h : tyV Tryz.prog (g + 3) 23 vs) : ∃ l : List (List Int), vs = [.sl 1 (l.map rwI)] := by
  obtain ⟨els, h1, _, h3⟩ := tyV_slw h Ty.se23
  obtain ⟨l, hl⟩ := rows_map (R := rwI) (els := els) (fun row hr => ints_cell (h3 row hr))
  subst hl
  rw [Ty.cz22] at h1
  exact ⟨l, h1⟩
theorem tab_cell {g : Nat} {vs : List V} (h : tyV Tryz.prog (g + 4) 25 vs) : ∃ t : Tb, vs = tabR t := by
  have hl := tyV_len h Ty.ag25
  rw [Ty.cz25] at hl
  obtain ⟨n0, e0⟩ := ints_cell (tyV_fld h Ty.fd25_0)
  obtain ⟨n1, e1⟩ := ints_cell (tyV_fld h Ty.fd25_1)
  obtain ⟨n2, e2⟩ := rws_cell (tyV_fld h Ty.fd25_2)
  rw [Ty.cz22] at e0 e1
  rw [Ty.cz23] at e2
  match vs, hl with
  | [x0, x1, x2], _ =>
    simp at e0 e1 e2
    subst e0 e1 e2
    exact ⟨⟨n0, n1, n2⟩, rfl⟩
theorem rot_cell {g : Nat} {vs : List V} (h : tyV Tryz.prog (g + 5) 27 vs) : ∃ r : Ro, vs = r.row := by
  have hl := tyV_len h Ty.ag27
  rw [Ty.cz27] at hl
  obtain ⟨t0, e0⟩ := tab_cell (tyV_fld h Ty.fd27_0)
  obtain ⟨t1, e1⟩ := tab_cell (tyV_fld h Ty.fd27_1)
  obtain ⟨t2, e2⟩ := tab_cell (tyV_fld h Ty.fd27_2)
  obtain ⟨t3, e3⟩ := tab_cell (tyV_fld h Ty.fd27_3)
  obtain ⟨t4, e4⟩ := tab_cell (tyV_fld h Ty.fd27_4)
  obtain ⟨t5, e5⟩ := tab_cell (tyV_fld h Ty.fd27_5)
  obtain ⟨t6, e6⟩ := tab_cell (tyV_fld h Ty.fd27_6)
  obtain ⟨t7, e7⟩ := tab_cell (tyV_fld h Ty.fd27_7)
  obtain ⟨n8, e8⟩ := int_cell (tyV_fld h Ty.fd27_8)
  obtain ⟨n9, e9⟩ := int_cell (tyV_fld h Ty.fd27_9)
  rw [Ty.cz25] at e0 e1 e2 e3 e4 e5 e6 e7
  rw [Ty.cz3] at e8 e9
  match vs, hl with
  | [x0, x1, x2, x3, x4, x5, x6, x7, x8, x9, x10, x11, x12, x13, x14, x15, x16, x17, x18, x19, x20, x21, x22, x23, x24, x25], _ =>
    simp [tabR] at e0 e1 e2 e3 e4 e5 e6 e7 e8 e9
    obtain ⟨rfl, rfl, rfl⟩ := e0
    obtain ⟨rfl, rfl, rfl⟩ := e1
    obtain ⟨rfl, rfl, rfl⟩ := e2
    obtain ⟨rfl, rfl, rfl⟩ := e3
    obtain ⟨rfl, rfl, rfl⟩ := e4
    obtain ⟨rfl, rfl, rfl⟩ := e5
    obtain ⟨rfl, rfl, rfl⟩ := e6
    obtain ⟨rfl, rfl, rfl⟩ := e7
    subst e8 e9
    exact ⟨⟨t0, t1, t2, t3, t4, t5, t6, t7, n8, n9⟩, rfl⟩
theorem sp_cell {g : Nat} {vs : List V} (h : tyV Tryz.prog (g + 2) 29 vs) : ∃ p : Sp, vs = Sp.row p := by
  have hl := tyV_len h Ty.ag29
  rw [Ty.cz29] at hl
  obtain ⟨n0, e0⟩ := int_cell (tyV_fld h Ty.fd29_0)
  obtain ⟨n1, e1⟩ := int_cell (tyV_fld h Ty.fd29_1)
  rw [Ty.cz3] at e0 e1
  match vs, hl with
  | [x0, x1], _ =>
    simp at e0 e1
    subst e0 e1
    exact ⟨⟨n0, n1⟩, rfl⟩
theorem air_cell {g : Nat} {vs : List V} (h : tyV Tryz.prog (g + 3) 31 vs) : ∃ a : Ai, vs = a.row := by
  have hl := tyV_len h Ty.ag31
  rw [Ty.cz31] at hl
  obtain ⟨s0, e0⟩ := sp_cell (tyV_fld h Ty.fd31_0)
  obtain ⟨s1, e1⟩ := sp_cell (tyV_fld h Ty.fd31_1)
  obtain ⟨s2, e2⟩ := sp_cell (tyV_fld h Ty.fd31_2)
  obtain ⟨s3, e3⟩ := sp_cell (tyV_fld h Ty.fd31_3)
  rw [Ty.cz29] at e0 e1 e2 e3
  match vs, hl with
  | [x0, x1, x2, x3, x4, x5, x6, x7], _ =>
    simp [Sp.row] at e0 e1 e2 e3
    obtain ⟨rfl, rfl⟩ := e0
    obtain ⟨rfl, rfl⟩ := e1
    obtain ⟨rfl, rfl⟩ := e2
    obtain ⟨rfl, rfl⟩ := e3
    exact ⟨⟨s0, s1, s2, s3⟩, rfl⟩
theorem lift_of {g : Nat} {x : V} (h : argTy Tryz.prog (g + 6) 33 x) : ∃ d : LiD, x = .agg d.row := by
  obtain ⟨vs, e, k⟩ := argTy_agg h Ty.ag33
  subst e
  have hl := tyV_len k Ty.ag33
  rw [Ty.cz33] at hl
  obtain ⟨r, e0⟩ := rot_cell (tyV_fld k Ty.fd33_0)
  obtain ⟨a, e1⟩ := air_cell (tyV_fld k Ty.fd33_1)
  obtain ⟨s, e2⟩ := sp_cell (tyV_fld k Ty.fd33_2)
  rw [Ty.cz27, List.drop_zero] at e0
  rw [Ty.cz31] at e1
  rw [Ty.cz29, List.take_of_length_le (by rw [List.length_drop]; omega)] at e2
  refine ⟨⟨r, a, s⟩, ?_⟩
  have h1 := List.take_append_drop 26 vs
  have h2 := List.take_append_drop 8 (vs.drop 26)
  rw [List.drop_drop] at h2
  rw [← h1, ← h2, e0, e1, e2]
  rfl
theorem se_cell {g : Nat} {vs : List V} (h : tyV Tryz.prog (g + 2) 87 vs) : ∃ p : Se, vs = Se.row p := by
  have hl := tyV_len h Ty.ag87
  rw [Ty.cz87] at hl
  obtain ⟨n0, e0⟩ := int_cell (tyV_fld h Ty.fd87_0)
  obtain ⟨n1, e1⟩ := bool_cell (tyV_fld h Ty.fd87_1)
  rw [Ty.cz3] at e0
  rw [Ty.cz4] at e1
  match vs, hl with
  | [x0, x1], _ =>
    simp at e0 e1
    subst e0 e1
    exact ⟨⟨n0, n1⟩, rfl⟩
theorem gu_cell {g : Nat} {vs : List V} (h : tyV Tryz.prog (g + 2) 70 vs) : ∃ p : Gu, vs = Gu.row p := by
  have hl := tyV_len h Ty.ag70
  rw [Ty.cz70] at hl
  obtain ⟨n0, e0⟩ := int_cell (tyV_fld h Ty.fd70_0)
  obtain ⟨n1, e1⟩ := bool_cell (tyV_fld h Ty.fd70_1)
  obtain ⟨n2, e2⟩ := int_cell (tyV_fld h Ty.fd70_2)
  obtain ⟨n3, e3⟩ := bool_cell (tyV_fld h Ty.fd70_3)
  rw [Ty.cz3] at e0 e2
  rw [Ty.cz4] at e1 e3
  match vs, hl with
  | [x0, x1, x2, x3], _ =>
    simp at e0 e1 e2 e3
    subst e0 e1 e2 e3
    exact ⟨⟨n0, n1, n2, n3⟩, rfl⟩
theorem ca_cell {g : Nat} {vs : List V} (k : tyV Tryz.prog (g + 4) 36 vs) : ∃ r : Ca, vs = r.row := by
  have hl := tyV_len k Ty.ag36
  rw [Ty.cz36] at hl
  obtain ⟨els, e2, _, h3⟩ := tyV_slw (tyV_fld k Ty.fd36_2) Ty.se34
  obtain ⟨l, hl2⟩ := rows_map (R := Se.row) (els := els) (fun row hr => se_cell (h3 row hr))
  subst hl2
  obtain ⟨n0, e0⟩ := int_cell (tyV_fld k Ty.fd36_0)
  obtain ⟨n1, e1⟩ := int_cell (tyV_fld k Ty.fd36_1)
  obtain ⟨n3, e3⟩ := int_cell (tyV_fld k Ty.fd36_3)
  obtain ⟨n4, e4⟩ := int_cell (tyV_fld k Ty.fd36_4)
  obtain ⟨n5, e5⟩ := int_cell (tyV_fld k Ty.fd36_5)
  rw [Ty.cz3] at e0 e1 e3 e4 e5
  rw [Ty.cz34, Ty.cz87] at e2
  match vs, hl with
  | [x0, x1, x2, x3, x4, x5], _ =>
    simp at e0 e1 e2 e3 e4 e5
    subst e0 e1 e2 e3 e4 e5
    exact ⟨⟨n0, n1, l, n3, n4, n5⟩, rfl⟩
theorem frei_of {g : Nat} {x : V} (h : argTy Tryz.prog (g + 5) 39 x) : ∃ d : FrD, x = .agg d.row := by
  obtain ⟨vs, e, k⟩ := argTy_agg h Ty.ag39
  subst e
  have hl := tyV_len k Ty.ag39
  rw [Ty.cz39] at hl
  obtain ⟨c, e0⟩ := ca_cell (tyV_fld k Ty.fd39_0)
  obtain ⟨els, e1, _, h3⟩ := tyV_slw (tyV_fld k Ty.fd39_1) Ty.se37
  obtain ⟨l, hl2⟩ := rows_map (R := Gu.row) (els := els) (fun row hr => gu_cell (h3 row hr))
  subst hl2
  obtain ⟨s, e2⟩ := sp_cell (tyV_fld k Ty.fd39_2)
  rw [Ty.cz36, List.drop_zero] at e0
  rw [Ty.cz37, Ty.cz70] at e1
  rw [Ty.cz29] at e2
  refine ⟨⟨c, l, s⟩, ?_⟩
  match vs, hl with
  | [x0, x1, x2, x3, x4, x5, x6, x7, x8], _ =>
    simp [Ca.row, Sp.row] at e0 e1 e2
    obtain ⟨rfl, rfl, rfl, rfl, rfl, rfl⟩ := e0
    obtain ⟨rfl, rfl⟩ := e2
    subst e1
    rfl
end Go.Sx.Rot
end
