/- What arguments read as, for any seat. No conditions. -/
import Derived.Test.YtbdphjgpjhlpmaaSxO
set_option linter.unusedSimpArgs false
set_option linter.unusedVariables false
set_option maxRecDepth 100000
namespace Go.Sx
open Go.RowKit

section
variable {P : Program} {g : Nat} {t : TypeId} {vs : List V}
theorem tyV_fld {k o : Nat} {ft : TypeId} (h : tyV P (g + 1) t vs) (hf : fld P t k = some (o, ft)) : tyV P g ft ((vs.drop o).take (P.cellsOf ft)) := by
  simp only [tyV] at h
  unfold fld at hf
  cases hu : P.underlying t with
  | none => simp [hu] at hf
  | some u =>
    rw [hu] at h hf
    cases u <;> simp only at h hf <;> try (cases hf; done)
    rename_i fs
    cases hk : fs[k]? with
    | none => simp [hk] at hf
    | some fl =>
      simp only [hk, Option.map_some, Option.some.injEq, Prod.mk.injEq] at hf
      obtain ⟨rfl, rfl⟩ := hf
      exact h.2 fl (Array.mem_toList_iff.2 (Array.mem_of_getElem? hk))
theorem tyV_len (h : tyV P (g + 1) t vs) (ha : isAg P t = true) : vs.length = P.cellsOf t := by
  simp only [tyV] at h
  unfold isAg at ha
  cases hu : P.underlying t with
  | none => simp [hu] at ha
  | some u =>
    rw [hu] at h ha
    cases u <;> simp only at h ha <;> first | (cases ha; done) | exact h.1
theorem tyV_int {k : IntKind} (h : tyV P (g + 1) t vs) (hk : intK P t = some k) : ∃ n, vs = [.int k n] ∧ (Lit.int k n).wf = true := by
  simp only [tyV] at h
  unfold intK at hk
  cases hu : P.underlying t with
  | none => simp [hu] at hk
  | some u =>
    rw [hu] at h hk
    cases u <;> simp only at h hk <;> try (cases hk; done)
    cases hk
    exact h
theorem tyV_sl {e : TypeId} (h : tyV P (g + 1) t vs) (hk : slEl P t = some e) : ∃ els, vs = [.sl (P.cellsOf e) els] ∧ els.length ≤ 9223372036854775807 ∧ ∀ row ∈ els, tyV P g e row := by
  simp only [tyV] at h
  unfold slEl at hk
  cases hu : P.underlying t with
  | none => simp [hu] at hk
  | some u =>
    rw [hu] at h hk
    cases u <;> simp only at h hk <;> try (cases hk; done)
    cases hk
    obtain ⟨els, h1, h2, _, h3⟩ := h
    exact ⟨els, h1, by simpa [maxLen] using h2, h3⟩
/-- The same, with the bound of memory. -/
theorem tyV_slw {e : TypeId} (h : tyV P (g + 1) t vs) (hk : slEl P t = some e) : ∃ els, vs = [.sl (P.cellsOf e) els] ∧ els.length * P.bytesOf e ≤ 140737488351232 ∧ ∀ row ∈ els, tyV P g e row := by
  simp only [tyV] at h
  unfold slEl at hk
  cases hu : P.underlying t with
  | none => simp [hu] at hk
  | some u =>
    rw [hu] at h hk
    cases u <;> simp only at h hk <;> try (cases hk; done)
    cases hk
    obtain ⟨els, h1, _, h2, h3⟩ := h
    exact ⟨els, h1, by simpa [reachBytes] using h2, h3⟩
theorem tyV_arr {n : Nat} {e : TypeId} (h : tyV P (g + 1) t vs) (hk : arEl P t = some (n, e)) : ∀ i, i < n → tyV P g e ((vs.drop (i * P.cellsOf e)).take (P.cellsOf e)) := by
  simp only [tyV] at h
  unfold arEl at hk
  cases hu : P.underlying t with
  | none => simp [hu] at hk
  | some u =>
    rw [hu] at h hk
    cases u <;> simp only at h hk <;> try (cases hk; done)
    cases hk
    exact h.2
theorem argTy_one {x : V} (h : argTy P g t x) (ha : isAg P t = false) : tyV P g t [x] := by
  unfold argTy at h; rw [if_neg (by rw [ha]; decide)] at h; exact h
theorem argTy_agg {x : V} (h : argTy P g t x) (ha : isAg P t = true) : ∃ vs, x = .agg vs ∧ tyV P g t vs := by
  unfold argTy at h; rw [if_pos ha] at h; exact h
end

end Go.Sx
