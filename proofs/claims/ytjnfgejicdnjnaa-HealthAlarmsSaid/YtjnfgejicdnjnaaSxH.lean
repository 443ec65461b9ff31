/- The soundness of what builds and allocates. No conditions. -/
import Derived.Test.YtjnfgejicdnjnaaSxG
namespace Go.Sx
open Go.RowKit

theorem zip_set (off : Nat) : ∀ (L : List Value) (k : Nat) (cells : Array Value), off + k + L.length ≤ cells.size →
    ((L.zipIdx k).foldl (fun cs p => cs.setIfInBounds (off + p.2) p.1) cells).size = cells.size ∧
    ∀ x, ((L.zipIdx k).foldl (fun cs p => cs.setIfInBounds (off + p.2) p.1) cells)[x]? = if off + k ≤ x ∧ x < off + k + L.length then L[x - (off + k)]? else cells[x]?
  | [], k, cells, _ => by
    refine ⟨rfl, fun x => ?_⟩
    rw [if_neg (by simp only [List.length_nil]; omega)]; rfl
  | v :: L, k, cells, h => by
    simp only [List.length_cons] at h
    have ih := zip_set off L (k + 1) (cells.setIfInBounds (off + k) v) (by simp; omega)
    simp only [List.zipIdx_cons, List.foldl_cons]
    refine ⟨by rw [ih.1]; simp, fun x => ?_⟩
    rw [ih.2 x]
    by_cases h1 : off + (k + 1) ≤ x ∧ x < off + (k + 1) + L.length
    · rw [if_pos h1, if_pos (by simp only [List.length_cons]; omega)]
      rw [show x - (off + k) = (x - (off + (k + 1))) + 1 by omega]; simp
    · rw [if_neg h1]
      by_cases h2 : x = off + k
      · subst h2
        rw [if_pos (by simp only [List.length_cons]; omega)]
        have : off + k < cells.size := by omega
        simp [this]
      · rw [if_neg (by simp only [List.length_cons]; omega)]
        rw [Array.getElem?_setIfInBounds, if_neg (fun e => h2 e.symm)]

theorem fold_set (off : Nat) (us cells : Array Value) (h : off + us.size ≤ cells.size) :
    (us.zipIdx.foldl (fun cs (p : Value × Nat) => match p with | (c, j) => cs.setIfInBounds (off + j) c) cells).size = cells.size ∧
    ∀ x, (us.zipIdx.foldl (fun cs (p : Value × Nat) => match p with | (c, j) => cs.setIfInBounds (off + j) c) cells)[x]? = if off ≤ x ∧ x < off + us.size then us[x - off]? else cells[x]? := by
  have hz := zip_set off us.toList 0 cells (by simpa using h)
  have e : us.zipIdx.foldl (fun cs (p : Value × Nat) => match p with | (c, j) => cs.setIfInBounds (off + j) c) cells = (us.toList.zipIdx 0).foldl (fun cs p => cs.setIfInBounds (off + p.2) p.1) cells := by
    rw [← Array.foldl_toList, Array.toList_zipIdx]
  rw [e]
  refine ⟨hz.1, fun x => ?_⟩
  rw [hz.2 x]
  simp

section
variable {F : Fr} {w : World} {A : Nat → Prop} {X : Refs} {h : Hp} {P : Program}

theorem ofVal1_cells {zs : Array Value} (hall : (zs.toList.map ofVal1).all V.cell1 = true) : CellsOK w A X (zs.toList.map ofVal1) zs := by
  refine ⟨by simp, fun j c hj => ?_⟩
  rw [List.getElem?_map] at hj
  cases hi : zs.toList[j]? with
  | none => simp [hi] at hj
  | some x =>
    simp [hi] at hj; subst hj
    have h1 : PV w A (ofVal1 x) x := pv_ofVal1 w A x
    refine ⟨x, by simpa using hi, h1.one ?_, .pure h1⟩
    simp only [List.all_eq_true] at hall
    exact hall _ (List.mem_map.2 ⟨x, List.mem_of_getElem? hi, rfl⟩)

theorem ofVal1_pv {zs : List Value} {j : Nat} {c : V} (hj : (zs.map ofVal1)[j]? = some c) : ∃ x, zs[j]? = some x ∧ PV w A c x := by
  rw [List.getElem?_map] at hj
  cases hi : zs[j]? with
  | none => simp [hi] at hj
  | some x => simp [hi] at hj; subst hj; exact ⟨x, rfl, pv_ofVal1 w A x⟩

/-- A new variable of one row. -/
theorem new_row (hI : Inv F w A X h) (key : Nat) (cs : List V) (us : Array Value) (ty : TypeId) (cl : Bool) (hcs : CellsOK w A X cs us) (hcl : cl = true → ∀ (j : Nat) (c : V) (u : Value), cs[j]? = some c → us[j]? = some u → PV w A c u) :
    ∃ A' X', Later w A (w.alloc (.cells us ty)) A' ∧ Xle X X' ∧ Inv F (w.alloc (.cells us ty)) A' X' (hpush h key { z := cs.length, els := [cs], ty := ty, cl := cl }) ∧
      RV (w.alloc (.cells us ty)) A' X' (.bptr key (hnext h key) 1 0 0) (.pointer (some ⟨w.heap.size, 0, none⟩)) := by
  have hI' := hI.alloc key { z := cs.length, els := [cs], ty := ty, cl := cl } us 1 rfl (by simp) (by decide) (by simp) (by simp [hcs.1]) (by
    intro e j row c he hj
    cases e with
    | zero =>
      simp at he; subst he
      obtain ⟨u, h1, h2, h3⟩ := hcs.2 j c hj
      exact ⟨u, by simpa using h1, h2, h3, fun hc => hcl hc j c u hj h1⟩
    | succ e => simp at he)
  refine ⟨_, _, hI.later_alloc _, hI.xle_new key _ 1, hI', ?_⟩
  refine .bptr _ _ _ _ _ _ (by simp [refsNew]) (by simp [refsNew]) (fun _ => by simp [refsNew])

theorem sAlloc_sound {T : TypeId} {key : Nat} (hI : Inv F w A X h) (hc : (sAlloc P key T h).c) :
    ∃ r w' A' X', (Instr.alloc T true (.tuple #[])).run P w = .ok r w' ∧ Later w A w' A' ∧ Xle X X' ∧ Inv F w' A' X' (sAlloc P key T h).h ∧ RV w' A' X' (sAlloc P key T h).v r := by
  simp only [sAlloc] at hc ⊢
  obtain ⟨h1, h2, h3⟩ := hc
  obtain ⟨i, zv, hi, hs, hz, hzc, hsz⟩ := zc_some h2 h1
  rw [hzc] at h3 h1 ⊢
  obtain ⟨A', X', g1, g2, g3, g4⟩ := new_row hI key _ zv.cells T true (ofVal1_cells h3) (fun _ j c u hj hu => by
    obtain ⟨x, hx, hp⟩ := ofVal1_pv (w := w) (A := A) hj
    have : u = x := by have hx' : zv.cells[j]? = some x := by simpa using hx
                       rw [hu] at hx'; exact Option.some.inj hx'
    rw [this]; exact hp)
  rw [h1] at g3
  have hr : (Instr.alloc T true (.tuple #[])).run P w = .ok (.pointer (some ⟨w.heap.size, 0, none⟩)) (w.alloc (.cells zv.cells T)) := by simp [Instr.alloc, zeroValue, typeInfo, hi, hz, newVar, newRow]
  exact ⟨_, _, A', X', hr, g1, g2, g3, g4⟩

theorem cells_refFree {cs : List V} {us : Array Value} (hcs : CellsOK w A X cs us) (hall : cs.all V.refFree = true) {j : Nat} {c : V} {u : Value} (hj : cs[j]? = some c) (hu : us[j]? = some u) : PV w A c u := by
  obtain ⟨u', h1, _, h3⟩ := hcs.2 j c hj
  rw [hu] at h1; cases h1
  simp only [List.all_eq_true] at hall
  exact .of_refFree h3 (hall c (List.mem_of_getElem? hj))

theorem sBox_sound {T : TypeId} {key : Nat} {x : V} {u : Value} (hI : Inv F w A X h) (hx : RV w A X x u) (hc : (sBox P key T x h).c) :
    ∃ r w' A' X', (Instr.box T u).run P w = .ok r w' ∧ Later w A w' A' ∧ Xle X X' ∧ Inv F w' A' X' (sBox P key T x h).h ∧ RV w' A' X' (sBox P key T x h).v r := by
  simp only [sBox] at hc ⊢
  obtain ⟨h1, h2⟩ := hc
  have hcs := hx.cells h2
  obtain ⟨A', X', g1, g2, g3, g4⟩ := new_row hI key _ u.cells T (x.cells.all V.refFree) hcs (fun hall j c u hj hu => cells_refFree hcs hall hj hu)
  rw [h1] at g3
  have hr : (Instr.box T u).run P w = .ok (.pointer (some ⟨w.heap.size, 0, none⟩)) (w.alloc (.cells u.cells T)) := by simp [Instr.box, newVar, newRow]
  exact ⟨_, _, A', X', hr, g1, g2, g3, g4⟩

/-- 'fill' over a row of cells. -/
theorem fills_sound {place : Nat → Option (Nat × Nat)} : ∀ (parts : List (Nat × V)) (us : List (Nat × Value)) (cells : List V) (cs : Array Value), parts.length = us.length →
    (∀ (i : Nat) (p : Nat × V) (u : Nat × Value), parts[i]? = some p → us[i]? = some u → p.1 = u.1 ∧ RV w A X p.2 u.2) → CellsOK w A X cells cs → (fills place cells parts).1 →
    ∃ cs', Instr.fill place cs us = some cs' ∧ CellsOK w A X (fills place cells parts).2 cs' ∧ (fills place cells parts).2.length = cells.length
  | [], [], cells, cs, _, _, hcs, _ => ⟨cs, rfl, hcs, rfl⟩
  | [], _ :: _, _, _, hl, _, _, _ => by simp at hl
  | _ :: _, [], _, _, hl, _, _, _ => by simp at hl
  | (i, v) :: parts, (i', u) :: us, cells, cs, hl, hp, hcs, hc => by
    have h0 := hp 0 (i, v) (i', u) rfl rfl
    simp only at h0
    obtain ⟨rfl, hv⟩ := h0
    simp only [fills] at hc ⊢
    cases hpl : place i with
    | none => simp [hpl] at hc
    | some os =>
      obtain ⟨off, size⟩ := os
      simp only [hpl] at hc ⊢
      obtain ⟨h1, h2, h3, h4⟩ := hc
      have hvc := hv.cells h3
      have hus : u.cells.size = size := by rw [hvc.1, h1]
      have hf := fold_set off u.cells cs (by rw [hus, hcs.1]; exact h2)
      have hcs' : CellsOK w A X (splice cells off v.cells) (u.cells.zipIdx.foldl (fun cs (p : Value × Nat) => match p with | (c, j) => cs.setIfInBounds (off + j) c) cs) := by
        refine ⟨by rw [hf.1, hcs.1, splice_length]; omega, fun j c hj => ?_⟩
        rw [splice_get _ _ _ _ (by omega)] at hj
        rw [hf.2 j]
        by_cases c1 : j < off
        · rw [if_pos c1] at hj; rw [if_neg (by omega)]; exact hcs.2 j c hj
        · rw [if_neg c1] at hj
          by_cases c2 : j < off + v.cells.length
          · rw [if_pos c2] at hj; rw [if_pos (by omega)]; exact hvc.2 _ c hj
          · rw [if_neg c2] at hj; rw [if_neg (by omega)]; exact hcs.2 j c hj
      obtain ⟨cs', g1, g2, g3⟩ := fills_sound parts us (splice cells off v.cells) _ (by simpa using hl) (fun k p q hk hq => hp (k + 1) p q (by simpa using hk) (by simpa using hq)) hcs' h4
      refine ⟨cs', ?_, g2, by rw [g3, splice_length]; omega⟩
      simp only [Instr.fill, hpl]
      rw [if_neg (by simp only [ne_eq, hus, not_true_eq_false, false_or, Bool.or_eq_true, decide_eq_true_eq]; rw [hcs.1]; omega)]
      exact g1

theorem pairs_sound {ρ : Operand → V} {ρ' : Operand → Value} (parts : List (Nat × Operand)) (hρ : ∀ p ∈ parts, RV w A X (ρ p.2) (ρ' p.2)) :
    ∀ (i : Nat) (p : Nat × V) (u : Nat × Value), (parts.map fun p => (p.1, ρ p.2))[i]? = some p → (parts.map fun p => (p.1, ρ' p.2))[i]? = some u → p.1 = u.1 ∧ RV w A X p.2 u.2 := by
  intro i p u hp hu
  rw [List.getElem?_map] at hp hu
  cases hi : parts[i]? with
  | none => simp [hi] at hp
  | some q => simp [hi] at hp hu; subst hp hu; exact ⟨rfl, hρ q (List.mem_of_getElem? hi)⟩

theorem CellsOK.agg {cs : List V} {us : Array Value} (hcs : CellsOK w A X cs us) : RV w A X (.agg cs) (.agg us) := by
  refine .agg cs us hcs.1 fun i c hi => ?_
  obtain ⟨u, h1, _, h3⟩ := hcs.2 i c hi
  rw [Array.getD_eq_getD_getElem?, h1]; exact h3

theorem fill_congr {f g : Nat → Option (Nat × Nat)} : ∀ (l : List (Nat × Value)) (cs : Array Value), (∀ p ∈ l, f p.1 = g p.1) → Instr.fill f cs l = Instr.fill g cs l
  | [], _, _ => rfl
  | (i, v) :: l, cs, h => by
    have h0 := h (i, v) (by simp)
    simp only at h0
    simp only [Instr.fill, h0]
    cases g i with
    | none => rfl
    | some os =>
      obtain ⟨off, size⟩ := os
      simp only
      split
      · rfl
      · exact fill_congr l _ fun p hp => h p (List.mem_cons_of_mem _ hp)

theorem fill_map (f : Nat → Option (Nat × Nat)) (places : Array (Nat × Nat)) (l : List (Nat × Value)) (cs : Array Value) (h : ∀ i os, f i = some os → places[i]? = some os) (hok : ∀ p ∈ l, (f p.1).isSome = true) :
    Instr.fill (fun i => places[i]?) cs l = Instr.fill f cs l := by
  refine fill_congr l cs fun p hp => ?_
  have := hok p hp
  cases hf : f p.1 with
  | none => simp [hf] at this
  | some os => exact h _ _ hf

theorem fills_isSome {place : Nat → Option (Nat × Nat)} : ∀ (parts : List (Nat × V)) (cells : List V), (fills place cells parts).1 → ∀ p ∈ parts, (place p.1).isSome = true
  | [], _, _, p, hp => by simp at hp
  | (i, v) :: parts, cells, hc, p, hp => by
    simp only [fills] at hc
    cases hpl : place i with
    | none => simp [hpl] at hc
    | some os =>
      obtain ⟨off, size⟩ := os
      simp only [hpl] at hc
      rcases List.mem_cons.1 hp with rfl | hp
      · simp [hpl]
      · exact fills_isSome parts _ hc.2.2.2 p hp

theorem run_places' (w : World) : ∀ (fs : List Field), (∀ f ∈ fs, 0 < P.cellsOf f.type) → (fs.mapM (fun f => do pure (f.offset, ← sizeOf f.type) : Field → Sem (Nat × Nat))).run P w = .ok (fs.map fun f => (f.offset, P.cellsOf f.type)) w
  | [], _ => by simp
  | f :: fs, h => by
    have h0 := h f (by simp)
    have ih := run_places' w fs fun g hg => h g (List.mem_cons_of_mem _ hg)
    simp only [List.mapM_cons, Sem.run_bind, run_sizeOf' h0, Result.andThen_ok, Sem.run_pure, ih, List.map_cons]

theorem sBuild_sound {T : TypeId} {ρ : Operand → V} {ρ' : Operand → Value} (parts : Array (Nat × Operand)) (hρ : ∀ p ∈ parts.toList, RV w A X (ρ p.2) (ρ' p.2))
    (hc : (sBuild P T (parts.toList.map fun p => (p.1, ρ p.2)) h).c) :
    ∃ r, (Instr.build T (parts.map fun (i, x) => (i, ρ' x))).run P w = .ok r w ∧ RV w A X (sBuild P T (parts.toList.map fun p => (p.1, ρ p.2)) h).v r := by
  unfold sBuild at hc ⊢
  have hpt : (parts.map fun (i, x) => (i, ρ' x)).toList = parts.toList.map fun p => (p.1, ρ' p.2) := by simp
  split at hc
  · rename_i _ hst
    obtain ⟨fs, hu⟩ : ∃ fs, P.underlying T = some (.struct fs) := by unfold isSt at hst; split at hst <;> simp_all
    simp only at hc ⊢
    obtain ⟨h1, h2, hall, hfl, hcs⟩ := hc
    obtain ⟨i, zv, hi, hs, hz, hzc, hsz⟩ := zc_some h2 h1
    have hfs : ∀ f ∈ fs.toList, 0 < P.cellsOf f.type := by
      simp only [fldsOk, hu, List.all_eq_true, decide_eq_true_eq] at hfl; exact hfl
    have hz0 : CellsOK w A X (zc P T) zv.cells := by rw [hzc]; exact ofVal1_cells (by rw [← hzc]; exact hall)
    obtain ⟨cs', g1, g2, g3⟩ := fills_sound (w := w) (A := A) (X := X) _ _ _ _ (by simp) (pairs_sound (w := w) (A := A) (X := X) parts.toList hρ) hz0 hcs
    have g1' : Instr.fill (fun x => (fs.map fun f => (f.offset, P.cellsOf f.type))[x]?) zv.cells (parts.toList.map fun p => (p.1, ρ' p.2)) = some cs' := by
      rw [← g1]
      refine fill_map _ _ _ _ (fun k os hk => ?_) (fun p hp => ?_)
      · cases hf : fld P T k with
        | none => simp [hf] at hk
        | some oft =>
          obtain ⟨o, ft⟩ := oft
          simp [hf] at hk; subst hk
          obtain ⟨fs', fd, hu', hfd, rfl, rfl⟩ := fld_some hf
          rw [hu] at hu'; cases hu'
          simp [hfd]
      · obtain ⟨q, hq, rfl⟩ := List.mem_map.1 hp
        have := fills_isSome _ _ hcs (q.1, ρ q.2) (List.mem_map.2 ⟨q, hq, rfl⟩)
        simpa using this
    refine ⟨.agg cs', ?_, g2.agg⟩
    have hpl := run_places' (P := P) w fs.toList hfs
    have hpl2 : (fs.mapM (fun f => do pure (f.offset, ← sizeOf f.type) : Field → Sem (Nat × Nat))).run P w = .ok (fs.map fun f => (f.offset, P.cellsOf f.type)) w := by
      have hmm : (fs.mapM (fun f => do pure (f.offset, ← sizeOf f.type) : Field → Sem (Nat × Nat))) = Functor.map List.toArray (fs.toList.mapM (fun f => do pure (f.offset, ← sizeOf f.type) : Field → Sem (Nat × Nat))) := Array.mapM_eq_mapM_toList
      rw [hmm]
      refine (Sem.run_map P w _ _).trans ?_
      rw [hpl]
      refine congrArg (fun x => Result.ok x w) ?_
      rw [← Array.toList_map]
    have hz' : (zeroValue T).run P w = .ok zv w := by simp [zeroValue, typeInfo, hi, hz]
    unfold Instr.build
    simp only [Sem.run_bind, hz', Result.andThen_ok, run_underlying hu, hpl2, hpt, g1', Sem.run_pure]
  · rename_i n e _ har
    have hu := arEl_some har
    simp only at hc ⊢
    obtain ⟨h1, h2, hall, h0, hcs⟩ := hc
    obtain ⟨i, zv, hi, hs, hz, hzc, hsz⟩ := zc_some h2 h1
    have hz0 : CellsOK w A X (zc P T) zv.cells := by rw [hzc]; exact ofVal1_cells (by rw [← hzc]; exact hall)
    obtain ⟨cs', g1, g2, g3⟩ := fills_sound (w := w) (A := A) (X := X) _ _ _ _ (by simp) (pairs_sound (w := w) (A := A) (X := X) parts.toList hρ) hz0 hcs
    refine ⟨.agg cs', ?_, g2.agg⟩
    have hz' : (zeroValue T).run P w = .ok zv w := by simp [zeroValue, typeInfo, hi, hz]
    unfold Instr.build
    simp only [Sem.run_bind, hz', Result.andThen_ok, run_underlying hu, run_sizeOf' h0, hpt, g1, Sem.run_pure]
  · exact hc.elim

/-- Rows laid flat. -/
def FlatOK (w : World) (A : Nat → Prop) (X : Refs) (z : Nat) (rows : List (List V)) (arr : Array Value) : Prop :=
  arr.size = rows.length * z ∧ (∀ row ∈ rows, row.length = z) ∧ ∀ (e j : Nat) (row : List V) (c : V), rows[e]? = some row → row[j]? = some c → ∃ u, arr[e * z + j]? = some u ∧ u.oneCell' = true ∧ RV w A X c u

theorem fillRows_sound {z : Nat} (hz0 : 0 < z) : ∀ (parts : List (Nat × V)) (us : List (Nat × Value)) (rows : List (List V)) (cs : Array Value), parts.length = us.length →
    (∀ (i : Nat) (p : Nat × V) (u : Nat × Value), parts[i]? = some p → us[i]? = some u → p.1 = u.1 ∧ RV w A X p.2 u.2) → FlatOK w A X z rows cs → (fillRows z rows parts).1 →
    ∃ cs', Instr.fill (fun i => some (i * z, z)) cs us = some cs' ∧ FlatOK w A X z (fillRows z rows parts).2 cs' ∧ (fillRows z rows parts).2.length = rows.length
  | [], [], rows, cs, _, _, hcs, _ => ⟨cs, rfl, hcs, rfl⟩
  | [], _ :: _, _, _, hl, _, _, _ => by simp at hl
  | _ :: _, [], _, _, hl, _, _, _ => by simp at hl
  | (i, v) :: parts, (i', u) :: us, rows, cs, hl, hp, hcs, hc => by
    have h0 := hp 0 (i, v) (i', u) rfl rfl
    simp only at h0
    obtain ⟨rfl, hv⟩ := h0
    simp only [fillRows] at hc ⊢
    obtain ⟨h1, h2, h3, h4⟩ := hc
    have hvc := hv.cells h3
    have hus : u.cells.size = z := by rw [hvc.1, h1]
    have hfit : i * z + z ≤ cs.size := by
      rw [hcs.1]
      have : (i + 1) * z ≤ rows.length * z := Nat.mul_le_mul_right _ h2
      rw [Nat.add_mul] at this; omega
    have hf := fold_set (i * z) u.cells cs (by rw [hus]; exact hfit)
    have hcs' : FlatOK w A X z (rows.set i v.cells) (u.cells.zipIdx.foldl (fun cs (p : Value × Nat) => match p with | (c, j) => cs.setIfInBounds (i * z + j) c) cs) := by
      refine ⟨by rw [hf.1, hcs.1, List.length_set], fun row hr => ?_, fun e j row c he hj => ?_⟩
      · rcases List.mem_or_eq_of_mem_set hr with hr | rfl
        · exact hcs.2.1 row hr
        · exact h1
      · rw [hf.2]
        by_cases hei : e = i
        · subst hei
          rw [List.getElem?_set_self h2] at he
          obtain rfl := Option.some.inj he
          have hjl : j < v.cells.length := (List.getElem?_eq_some_iff.1 hj).1
          rw [if_pos (by omega), show e * z + j - e * z = j by omega]
          exact hvc.2 j c hj
        · rw [List.getElem?_set_ne (fun hh => hei hh.symm)] at he
          have hjl : j < z := by rw [← hcs.2.1 row (List.mem_of_getElem? he)]; exact (List.getElem?_eq_some_iff.1 hj).1
          have := flat_lt (j := 0) (m := z) hei (by omega) hjl
          rw [if_neg (by omega)]
          exact hcs.2.2 e j row c he hj
    obtain ⟨cs', g1, g2, g3⟩ := fillRows_sound hz0 parts us (rows.set i v.cells) _ (by simpa using hl) (fun k p q hk hq => hp (k + 1) p q (by simpa using hk) (by simpa using hq)) hcs' h4
    refine ⟨cs', ?_, g2, by rw [g3, List.length_set]⟩
    simp only [Instr.fill]
    rw [if_neg (by simp only [ne_eq, hus, not_true_eq_false, false_or, Bool.or_eq_true, decide_eq_true_eq]; omega)]
    exact g1

theorem zrow_get {zs : Array Value} {n e j : Nat} (he : e < n) (hj : j < zs.size) : ((Array.range (n * zs.size)).map (zs[· % zs.size]!))[e * zs.size + j]? = zs[j]? := by
  have hlt := idx_lt he hj
  simp only [Array.getElem?_map, Array.getElem?_range, hlt, if_true, Option.map_some]
  have hm : (e * zs.size + j) % zs.size = j := by
    rw [Nat.mul_comm, Nat.mul_add_mod]; exact Nat.mod_eq_of_lt hj
  rw [hm, Array.getElem?_eq_getElem hj, getElem!_pos zs j hj]

theorem FlatOK.zeros {zs : Array Value} (hall : (zs.toList.map ofVal1).all V.cell1 = true) (n : Nat) : FlatOK w A X zs.size (List.replicate n (zs.toList.map ofVal1)) ((Array.range (n * zs.size)).map (zs[· % zs.size]!)) := by
  refine ⟨by simp, fun row hr => by rw [List.eq_of_mem_replicate hr]; simp, fun e j row c he hj => ?_⟩
  have hlt : e < n := by have := (List.getElem?_eq_some_iff.1 he).1; simpa using this
  have hrow : row = zs.toList.map ofVal1 := List.eq_of_mem_replicate (List.mem_of_getElem? he)
  subst hrow
  have hjl : j < zs.size := by have := (List.getElem?_eq_some_iff.1 hj).1; simpa using this
  rw [zrow_get hlt hjl]
  exact (ofVal1_cells (w := w) (A := A) (X := X) hall).2 j c hj

end
end Go.Sx
