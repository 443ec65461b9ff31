/- A part of a proof; no conditions. -/
import Derived.Test.YtomgmojjdgiieaaGreatP52
import Derived.Test.YtomgmojjdgiieaaGreatP51
set_option linter.unusedSimpArgs false
set_option linter.unusedVariables false
set_option linter.unusedSectionVars false
section
/- What arguments read as, for any seat. No conditions. -/
set_option linter.unusedSimpArgs false
set_option maxRecDepth 100000
namespace Go.Sx
open Go.RowKit
variable [Gls]
section
variable {P : Program} {g : Nat} {t : TypeId} {vs : List V}
theorem tyV_fld {k o : Nat} {ft : TypeId} (h : tyV P (g + 1) t vs) (hf : fld P t k = some (o, ft)) : tyV P g ft ((vs.drop o).take (P.cellsOf ft)) := by
  simp only [tyV] at h
  unfold fld at hf
  cases hu : P.underlying t with
  | none => simp [hu] at hf
  | some u =>
    rw [hu] at h hf
    cases u <;> simp only at h hf <;> try (cases hf; done)
    rename_i fs
    cases hk : fs[k]? with
    | none => simp [hk] at hf
    | some fl =>
      simp only [hk, Option.map_some, Option.some.injEq, Prod.mk.injEq] at hf
      obtain ⟨rfl, rfl⟩ := hf
      exact h.2 fl (Array.mem_toList_iff.2 (Array.mem_of_getElem? hk))
theorem tyV_len (h : tyV P (g + 1) t vs) (ha : isAg P t = true) : vs.length = P.cellsOf t := by
  simp only [tyV] at h
  unfold isAg at ha
  cases hu : P.underlying t with
  | none => simp [hu] at ha
  | some u =>
    rw [hu] at h ha
    cases u <;> simp only at h ha <;> first | (cases ha; done) | exact h.1
theorem tyV_int {k : IntKind} (h : tyV P (g + 1) t vs) (hk : intK P t = some k) : ∃ n, vs = [.int k n] ∧ (Lit.int k n).wf = true := by
  simp only [tyV] at h
  unfold intK at hk
  cases hu : P.underlying t with
  | none => simp [hu] at hk
  | some u =>
    rw [hu] at h hk
    cases u <;> simp only at h hk <;> try (cases hk; done)
    cases hk
    exact h
theorem tyV_slw {e : TypeId} (h : tyV P (g + 1) t vs) (hk : slEl P t = some e) : ∃ els, vs = [.sl (P.cellsOf e) els] ∧ els.length * P.bytesOf e ≤ 140737488351232 ∧ ∀ row ∈ els, tyV P g e row := by
  simp only [tyV] at h
  unfold slEl at hk
  cases hu : P.underlying t with
  | none => simp [hu] at hk
  | some u =>
    rw [hu] at h hk
    cases u <;> simp only at h hk <;> try (cases hk; done)
    cases hk
    obtain ⟨els, h1, _, h2, h3⟩ := h
    exact ⟨els, h1, by simpa [reachBytes] using h2, h3⟩
theorem tyV_arr {n : Nat} {e : TypeId} (h : tyV P (g + 1) t vs) (hk : arEl P t = some (n, e)) : ∀ i, i < n → tyV P g e ((vs.drop (i * P.cellsOf e)).take (P.cellsOf e)) := by
  simp only [tyV] at h
  unfold arEl at hk
  cases hu : P.underlying t with
  | none => simp [hu] at hk
  | some u =>
    rw [hu] at h hk
    cases u <;> simp only at h hk <;> try (cases hk; done)
    cases hk
    exact h.2
theorem argTy_agg {x : V} (h : argTy P g t x) (ha : isAg P t = true) : ∃ vs, x = .agg vs ∧ tyV P g t vs := by
  unfold argTy at h; rw [if_pos ha] at h; exact h
end
end Go.Sx
end
section
/- TopParted: what the arguments of the law read as. No conditions. -/
set_option linter.unusedSimpArgs false
set_option linter.unusedSectionVars false
set_option maxRecDepth 100000
namespace Go.Sx.Rot
open Go.Proofs Go.RowKit Go.Sx Go.Sx.Tab
theorem int_cell {g : Nat} {vs : List V} (h : tyV Tryz.prog (g + 1) 3 vs) : ∃ n, vs = [.int .i64 n] := by
  obtain ⟨n, h1, _⟩ := tyV_int h Ty.ik3; exact ⟨n, h1⟩
theorem ints_cell {g : Nat} {vs : List V} (h : tyV Tryz.prog (g + 2) 22 vs) : ∃ l : List Int, vs = [ints l] := by
  obtain ⟨els, h1, _, h3⟩ := tyV_slw h Ty.se22
  obtain ⟨l, hl⟩ := rows_map (R := ri) (els := els) (fun row hr => int_cell (h3 row hr))
  subst hl
  rw [Ty.cz3] at h1
  exact ⟨l, h1⟩
theorem rws_cell {g : Nat} {vs : List V} (h : tyV Tryz.prog (g + 3) 23 vs) : ∃ l : List (List Int), vs = [.sl 1 (l.map rwI)] := by
  obtain ⟨els, h1, _, h3⟩ := tyV_slw h Ty.se23
  obtain ⟨l, hl⟩ := rows_map (R := rwI) (els := els) (fun row hr => ints_cell (h3 row hr))
  subst hl
  rw [Ty.cz22] at h1
  exact ⟨l, h1⟩
theorem tab_cell {g : Nat} {vs : List V} (h : tyV Tryz.prog (g + 4) 25 vs) : ∃ t : Tb, vs = tabR t := by
  have hl := tyV_len h Ty.ag25
  rw [Ty.cz25] at hl
  obtain ⟨n0, e0⟩ := ints_cell (tyV_fld h Ty.fd25_0)
  obtain ⟨n1, e1⟩ := ints_cell (tyV_fld h Ty.fd25_1)
  obtain ⟨n2, e2⟩ := rws_cell (tyV_fld h Ty.fd25_2)
  rw [Ty.cz22] at e0 e1
  rw [Ty.cz23] at e2
  match vs, hl with
  | [x0, x1, x2], _ =>
    simp at e0 e1 e2
    subst e0 e1 e2
    exact ⟨⟨n0, n1, n2⟩, rfl⟩
theorem rot_cell {g : Nat} {vs : List V} (h : tyV Tryz.prog (g + 5) 27 vs) : ∃ r : Ro, vs = r.row := by
  have hl := tyV_len h Ty.ag27
  rw [Ty.cz27] at hl
  obtain ⟨t0, e0⟩ := tab_cell (tyV_fld h Ty.fd27_0)
  obtain ⟨t1, e1⟩ := tab_cell (tyV_fld h Ty.fd27_1)
  obtain ⟨t2, e2⟩ := tab_cell (tyV_fld h Ty.fd27_2)
  obtain ⟨t3, e3⟩ := tab_cell (tyV_fld h Ty.fd27_3)
  obtain ⟨t4, e4⟩ := tab_cell (tyV_fld h Ty.fd27_4)
  obtain ⟨t5, e5⟩ := tab_cell (tyV_fld h Ty.fd27_5)
  obtain ⟨t6, e6⟩ := tab_cell (tyV_fld h Ty.fd27_6)
  obtain ⟨t7, e7⟩ := tab_cell (tyV_fld h Ty.fd27_7)
  obtain ⟨n8, e8⟩ := int_cell (tyV_fld h Ty.fd27_8)
  obtain ⟨n9, e9⟩ := int_cell (tyV_fld h Ty.fd27_9)
  rw [Ty.cz25] at e0 e1 e2 e3 e4 e5 e6 e7
  rw [Ty.cz3] at e8 e9
  match vs, hl with
  | [x0, x1, x2, x3, x4, x5, x6, x7, x8, x9, x10, x11, x12, x13, x14, x15, x16, x17, x18, x19, x20, x21, x22, x23, x24, x25], _ =>
    simp [tabR] at e0 e1 e2 e3 e4 e5 e6 e7 e8 e9
    obtain ⟨rfl, rfl, rfl⟩ := e0
    obtain ⟨rfl, rfl, rfl⟩ := e1
    obtain ⟨rfl, rfl, rfl⟩ := e2
    obtain ⟨rfl, rfl, rfl⟩ := e3
    obtain ⟨rfl, rfl, rfl⟩ := e4
    obtain ⟨rfl, rfl, rfl⟩ := e5
    obtain ⟨rfl, rfl, rfl⟩ := e6
    obtain ⟨rfl, rfl, rfl⟩ := e7
    subst e8 e9
    exact ⟨⟨t0, t1, t2, t3, t4, t5, t6, t7, n8, n9⟩, rfl⟩
theorem sp_cell {g : Nat} {vs : List V} (h : tyV Tryz.prog (g + 2) 31 vs) : ∃ p : Sp, vs = Sp.row p := by
  have hl := tyV_len h Ty.ag31
  rw [Ty.cz31] at hl
  obtain ⟨n0, e0⟩ := int_cell (tyV_fld h Ty.fd31_0)
  obtain ⟨n1, e1⟩ := int_cell (tyV_fld h Ty.fd31_1)
  rw [Ty.cz3] at e0 e1
  match vs, hl with
  | [x0, x1], _ =>
    simp at e0 e1
    subst e0 e1
    exact ⟨⟨n0, n1⟩, rfl⟩
theorem air_cell {g : Nat} {vs : List V} (h : tyV Tryz.prog (g + 3) 33 vs) : ∃ a : Ai, vs = a.row := by
  have hl := tyV_len h Ty.ag33
  rw [Ty.cz33] at hl
  obtain ⟨s0, e0⟩ := sp_cell (tyV_fld h Ty.fd33_0)
  obtain ⟨s1, e1⟩ := sp_cell (tyV_fld h Ty.fd33_1)
  obtain ⟨s2, e2⟩ := sp_cell (tyV_fld h Ty.fd33_2)
  obtain ⟨s3, e3⟩ := sp_cell (tyV_fld h Ty.fd33_3)
  rw [Ty.cz31] at e0 e1 e2 e3
  match vs, hl with
  | [x0, x1, x2, x3, x4, x5, x6, x7], _ =>
    simp [Sp.row] at e0 e1 e2 e3
    obtain ⟨rfl, rfl⟩ := e0
    obtain ⟨rfl, rfl⟩ := e1
    obtain ⟨rfl, rfl⟩ := e2
    obtain ⟨rfl, rfl⟩ := e3
    exact ⟨⟨s0, s1, s2, s3⟩, rfl⟩
theorem craft_of {g : Nat} {x : V} (h : argTy Tryz.prog (g + 6) 29 x) : ∃ c : Cr, x = .agg c.row := by
  obtain ⟨vs, e, k⟩ := argTy_agg h Ty.ag29
  subst e
  have hl := tyV_len k Ty.ag29
  rw [Ty.cz29] at hl
  obtain ⟨r, e0⟩ := rot_cell (tyV_fld k Ty.fd29_0)
  obtain ⟨n1, e1⟩ := int_cell (tyV_fld k Ty.fd29_1)
  obtain ⟨n2, e2⟩ := int_cell (tyV_fld k Ty.fd29_2)
  obtain ⟨n3, e3⟩ := int_cell (tyV_fld k Ty.fd29_3)
  obtain ⟨n4, e4⟩ := int_cell (tyV_fld k Ty.fd29_4)
  obtain ⟨n5, e5⟩ := int_cell (tyV_fld k Ty.fd29_5)
  obtain ⟨n6, e6⟩ := int_cell (tyV_fld k Ty.fd29_6)
  obtain ⟨n7, e7⟩ := int_cell (tyV_fld k Ty.fd29_7)
  rw [Ty.cz27, List.drop_zero] at e0
  rw [Ty.cz3] at e1 e2 e3 e4 e5 e6 e7
  refine ⟨⟨r, n1, n2, n3, n4, n5, n6, n7⟩, ?_⟩
  have h1 := List.take_append_drop 26 vs
  have hd : (vs.drop 26).length = 7 := by rw [List.length_drop, hl]
  have f : ∀ i, (vs.drop (26 + i)) = (vs.drop 26).drop i := fun i => by rw [List.drop_drop]
  rw [show (27 : Nat) = 26 + 1 from rfl, f] at e2
  rw [show (28 : Nat) = 26 + 2 from rfl, f] at e3
  rw [show (29 : Nat) = 26 + 3 from rfl, f] at e4
  rw [show (30 : Nat) = 26 + 4 from rfl, f] at e5
  rw [show (31 : Nat) = 26 + 5 from rfl, f] at e6
  rw [show (32 : Nat) = 26 + 6 from rfl, f] at e7
  rw [← h1, e0]
  generalize vs.drop 26 = us at *
  match us, hd with
  | [x0, x1, x2, x3, x4, x5, x6], _ =>
    simp at e1 e2 e3 e4 e5 e6 e7
    subst e1 e2 e3 e4 e5 e6 e7
    rfl
theorem airt_of {g : Nat} {x : V} (h : argTy Tryz.prog (g + 3) 33 x) : ∃ a : Ai, x = .agg a.row := by
  obtain ⟨vs, e, k⟩ := argTy_agg h Ty.ag33
  subst e
  obtain ⟨a, e⟩ := air_cell k
  exact ⟨a, by rw [e]⟩
theorem hi_cell {g : Nat} {vs : List V} (h : tyV Tryz.prog (g + 2) 98 vs) : ∃ p : Hi, vs = p.row := by
  have hl := tyV_len h Ty.ag98
  rw [Ty.cz98] at hl
  obtain ⟨n0, e0⟩ := int_cell (tyV_fld h Ty.fd98_0)
  obtain ⟨n1, e1⟩ := int_cell (tyV_fld h Ty.fd98_1)
  rw [Ty.cz3] at e0 e1
  match vs, hl with
  | [x0, x1], _ =>
    simp at e0 e1
    subst e0 e1
    exact ⟨⟨n0, n1⟩, rfl⟩
theorem po_cell {g : Nat} {vs : List V} (h : tyV Tryz.prog (g + 2) 118 vs) : ∃ p : Po, vs = p.row := by
  have hl := tyV_len h Ty.ag118
  rw [Ty.cz118] at hl
  obtain ⟨n0, e0⟩ := int_cell (tyV_fld h Ty.fd118_0)
  obtain ⟨n1, e1⟩ := int_cell (tyV_fld h Ty.fd118_1)
  obtain ⟨n2, e2⟩ := int_cell (tyV_fld h Ty.fd118_2)
  rw [Ty.cz3] at e0 e1 e2
  match vs, hl with
  | [x0, x1, x2], _ =>
    simp at e0 e1 e2
    subst e0 e1 e2
    exact ⟨⟨n0, n1, n2⟩, rfl⟩
theorem fl_cell {g : Nat} {vs : List V} (k : tyV Tryz.prog (g + 4) 36 vs) : ∃ f : Fl, vs = f.row := by
  have hl := tyV_len k Ty.ag36
  rw [Ty.cz36] at hl
  obtain ⟨els, e3, _, h3⟩ := tyV_slw (tyV_fld k Ty.fd36_3) Ty.se34
  obtain ⟨l, hl2⟩ := rows_map (R := Hi.row) (els := els) (fun row hr => hi_cell (h3 row hr))
  subst hl2
  obtain ⟨n0, e0⟩ := int_cell (tyV_fld k Ty.fd36_0)
  obtain ⟨n1, e1⟩ := int_cell (tyV_fld k Ty.fd36_1)
  obtain ⟨n2, e2⟩ := int_cell (tyV_fld k Ty.fd36_2)
  rw [Ty.cz3] at e0 e1 e2
  rw [Ty.cz34, Ty.cz98] at e3
  match vs, hl with
  | [x0, x1, x2, x3], _ =>
    simp at e0 e1 e2 e3
    subst e0 e1 e2 e3
    exact ⟨⟨n0, n1, n2, l⟩, rfl⟩
theorem leav_of {g : Nat} {x : V} (h : argTy Tryz.prog (g + 5) 40 x) : ∃ d : LvD, x = .agg d.row := by
  obtain ⟨vs, e, k⟩ := argTy_agg h Ty.ag40
  subst e
  have hl := tyV_len k Ty.ag40
  rw [Ty.cz40] at hl
  obtain ⟨f, e0⟩ := fl_cell (tyV_fld k Ty.fd40_0)
  obtain ⟨els, e1, _, h3⟩ := tyV_slw (tyV_fld k Ty.fd40_1) Ty.se37
  obtain ⟨l, hl2⟩ := rows_map (R := Po.row) (els := els) (fun row hr => po_cell (h3 row hr))
  subst hl2
  have ha := tyV_arr (tyV_fld k Ty.fd40_2) Ty.ae38
  obtain ⟨n0, e2⟩ := int_cell (ha 0 (by omega))
  obtain ⟨n1, e3⟩ := int_cell (ha 1 (by omega))
  obtain ⟨n2, e4⟩ := int_cell (ha 2 (by omega))
  rw [Ty.cz36, List.drop_zero] at e0
  rw [Ty.cz37, Ty.cz118] at e1
  rw [Ty.cz38, Ty.cz3] at e2 e3 e4
  refine ⟨⟨f, l, n0, n1, n2⟩, ?_⟩
  match vs, hl with
  | [x0, x1, x2, x3, x4, x5, x6, x7], _ =>
    simp [Fl.row] at e0 e1 e2 e3 e4
    obtain ⟨rfl, rfl, rfl, rfl⟩ := e0
    subst e1 e2 e3 e4
    rfl
end Go.Sx.Rot
end
