/- The soundness of literals of slices, make, append and slicing. No conditions. -/
import Derived.Test.YtomgmojjdgiieaaGreatP06
set_option linter.unusedSimpArgs false
set_option linter.unusedVariables false
set_option linter.unusedSectionVars false
namespace Go.Sx
open Go.RowKit
variable [Gls]
section
variable {F : Fr} {w : World} {A : Nat → Prop} {X : Refs} {h : Hp} {P : Program}
theorem Inv.ext (hI : Inv F w A X h) (o : Obj) : Later w A (w.alloc o) A ∧ Inv F (w.alloc o) A X h := by
  have hL : Later w A (w.alloc o) A := ⟨by simp, fun b hb hA => ⟨Below.heap_alloc w o b hb, hA⟩⟩
  refine ⟨hL, { gl := hI.gl.mono hL, abd := ?_, aold := hI.aold, akeep := hI.akeep, os := hI.os, tape := hI.tape, output := hI.output, size := ?_, same := ?_, xle := hI.xle, nb := hI.nb, mi := hI.mi.step (fun _ => rfl) rfl rfl (fun b es clk hm => by rw [Below.heap_alloc w o b (Array.getElem?_eq_some_iff.1 hm).1]; exact hm) (fun _ _ _ _ h => h), blk := ?_, inj := hI.inj }⟩
  · intro b hA; have := hI.abd b hA; simp; omega
  · have := hI.size; simp; omega
  · intro b hb hM; have := hI.size; rw [Below.heap_alloc w o b (by omega)]; exact hI.same b hb hM
  intro s i B hB
  have ho := hI.blk s i B hB
  refine { hN := ho.hN, hz := ho.hz, hlen := ho.hlen, rows := ho.rows, mem := ?_ }
  rcases ho.mem with hm | ⟨arr, cap, h1, h2, h3, h4, h5, h6, h7, h8⟩
  · exact .inl hm
  · have hlt : (X.D s i).b < w.heap.size := (Array.getElem?_eq_some_iff.1 h1).1
    refine .inr ⟨arr, cap, by rw [Below.heap_alloc w o _ hlt]; exact h1, h2, h3, h4, h5, ?_, h7, h8⟩
    intro e j row c he hj
    obtain ⟨u, g1, g2, g3, g4⟩ := h6 e j row c he hj
    exact ⟨u, g1, g2, g3.mono hL (Xle.refl X), fun hcl => (g4 hcl).mono hL⟩
theorem sBuildSlice_sound {own : Bool} {key : Nat} {T : TypeId} {n : Nat} {ρ : Operand → V} {ρ' : Operand → Value} (parts : Array (Nat × Operand)) (hI : Inv F w A X h) (hρ : ∀ p ∈ parts.toList, RV w A X (ρ p.2) (ρ' p.2))
    (hc : (sBuildSlice P own key T n (parts.toList.map fun p => (p.1, ρ p.2)) h).c) :
    ∃ r w' A' X', (Instr.buildSlice T n (parts.map fun (i, x) => (i, ρ' x))).run P w = .ok r w' ∧ Later w A w' A' ∧ Xle X X' ∧ Inv F w' A' X' (sBuildSlice P own key T n (parts.toList.map fun p => (p.1, ρ p.2)) h).h ∧
      RV w' A' X' (sBuildSlice P own key T n (parts.toList.map fun p => (p.1, ρ p.2)) h).v r := by
  unfold sBuildSlice at hc ⊢
  have hpt : (parts.map fun (i, x) => (i, ρ' x)).toList = parts.toList.map fun p => (p.1, ρ' p.2) := by simp
  cases hsl : slEl P T with
  | none => simp [hsl, bad] at hc
  | some e =>
    simp only [hsl] at hc ⊢
    have hu := slEl_some hsl
    have core : (zc P e).length = P.cellsOf e ∧ 0 < P.cellsOf e ∧ n * P.cellsOf e ≤ 1048576 ∧ (zc P e).all V.cell1 = true ∧ (fillRows (P.cellsOf e) (List.replicate n (zc P e)) (parts.toList.map fun p => (p.1, ρ p.2))).1 := by
      cases own <;> simp at hc
      · exact ⟨hc.1.1, hc.1.2.1, hc.1.2.2.1, by simpa using hc.1.2.2.2.1, hc.1.2.2.2.2⟩
      · exact ⟨hc.1, hc.2.1, hc.2.2.1, by simpa using hc.2.2.2.1, hc.2.2.2.2⟩
    obtain ⟨h1, h2, h3, h4, h5⟩ := core
    obtain ⟨i, zv, hi, hs, hz, hzc, hsz⟩ := zc_some h2 h1
    have hflat := FlatOK.zeros (w := w) (A := A) (X := X) (zs := zv.cells) (by rw [← hzc]; exact h4) n
    rw [← hzc, hsz] at hflat
    obtain ⟨cs', g1, g2, g3⟩ := fillRows_sound (w := w) (A := A) (X := X) h2 _ _ _ _ (by simp) (pairs_sound (w := w) (A := A) (X := X) parts.toList hρ) hflat h5
    generalize hrows : (fillRows (P.cellsOf e) (List.replicate n (zc P e)) (parts.toList.map fun p => (p.1, ρ p.2))).2 = rows at *
    have hlen : rows.length = n := by rw [g3]; simp
    have hr : (Instr.buildSlice T n (parts.map fun (i, x) => (i, ρ' x))).run P w = .ok (.slice (some ⟨w.heap.size, 0, none⟩) n n) (w.alloc (.cells cs' e)) := by
      have hz' : (zeroValue e).run P w = .ok zv w := by simp [zeroValue, typeInfo, hi, hz]
      have hbig : ¬ n * P.cellsOf e > 2 ^ 24 := by omega
      unfold Instr.buildSlice
      simp only [Sem.run_bind, run_underlying hu, Result.andThen_ok, run_sizeOf' h2]
      by_cases hn : n * P.cellsOf e = 0
      · have hn0 : n = 0 := by rcases Nat.mul_eq_zero.1 hn with h | h <;> omega
        have e0 : ∀ f : Nat → Value, (Array.range (n * P.cellsOf e)).map f = #[] := by intro f; rw [hn]; simp [Array.range_zero']
        have g1' : Instr.fill (fun i => some (i * P.cellsOf e, P.cellsOf e)) #[] (parts.toList.map fun p => (p.1, ρ' p.2)) = some cs' := by rw [← g1, e0]
        simp only [hn, if_true, Sem.run_bind, Sem.run_pure, Result.andThen_ok]
        have e1 : ∀ f : Nat → Value, (Array.range 0).map f = #[] := fun f => by simp [Array.range_zero']
        simp only [e1, hpt, g1']
        simp [newRow]
      · simp only [hn, if_false, hbig, Sem.run_bind, hz', Result.andThen_ok, Sem.run_pure, hpt, hsz, g1]
        simp [newRow]
    cases own
    · simp only [Bool.false_eq_true, if_false] at hc ⊢
      obtain ⟨hL, hI'⟩ := hI.ext (.cells cs' e)
      have hnA : ¬ A w.heap.size := fun hA => by have := hI.abd _ hA; omega
      refine ⟨_, _, A, X, hr, hL, Xle.refl X, hI', .pure ?_⟩
      have hrf : ∀ row ∈ rows, ∀ c ∈ row, V.refFree c = true := by
        have := hc.2
        simpa [List.all_eq_true] using this
      have := PV.sl (w := w.alloc (.cells cs' e)) (A := A) (P.cellsOf e) rows w.heap.size 0 n (fun e1 j => (cs'[e1 * P.cellsOf e + j]?).getD und) (by omega) (by simp) hnA g2.2.1
        (fun e1 j row c he hj => by
          obtain ⟨u, k1, k2, _⟩ := g2.2.2 e1 j row c he hj
          rw [Nat.zero_add, World.cell?_alloc_new, k1]; exact ⟨rfl, k2⟩)
        (fun e1 j row c he hj => by
          obtain ⟨u, k1, k2, k3⟩ := g2.2.2 e1 j row c he hj
          simp only [k1, Option.getD_some]
          exact PV.mono hL (.of_refFree k3 (hrf row (List.mem_of_getElem? he) c (List.mem_of_getElem? hj))))
      rw [hlen] at this
      exact this
    · simp only [if_true] at hc ⊢
      have hI' := hI.alloc key { z := P.cellsOf e, els := rows, ty := e, cl := rows.all fun row => row.all V.refFree } cs' n rfl (by simp [hlen]) (by simp only [maxLen]; have := Nat.le_mul_of_pos_right n h2; omega) g2.2.1 (by rw [g2.1, hlen])
        (fun e1 j row c he hj => by
          obtain ⟨u, k1, k2, k3⟩ := g2.2.2 e1 j row c he hj
          refine ⟨u, k1, k2, k3, fun hcl => ?_⟩
          simp only [List.all_eq_true] at hcl
          exact .of_refFree k3 (hcl row (List.mem_of_getElem? he) c (List.mem_of_getElem? hj)))
      refine ⟨_, _, _, _, hr, hI.later_alloc _, hI.xle_new key _ n, hI', ?_⟩
      exact .bsl _ _ _ _ _ (by simp [refsNew]) (by simp [refsNew, hlen]) (fun _ => by simp [refsNew, hlen])
theorem sBuildE_sound {T : TypeId} {n : Nat} {ρ : Operand → V} {ρ' : Operand → Value} (parts : Array (Nat × Operand)) (hI : Inv F w A X h)
    (hc : (sBuildE P T n (parts.toList.map fun p => (p.1, ρ p.2)) h).c) :
    ∃ r w' A' X', (Instr.buildSlice T n (parts.map fun (i, x) => (i, ρ' x))).run P w = .ok r w' ∧ Later w A w' A' ∧ Xle X X' ∧ Inv F w' A' X' (sBuildE P T n (parts.toList.map fun p => (p.1, ρ p.2)) h).h ∧
      RV w' A' X' (sBuildE P T n (parts.toList.map fun p => (p.1, ρ p.2)) h).v r := by
  unfold sBuildE at hc ⊢
  split at hc
  · rename_i _ e hsl hq
    have hp : parts = #[] := by
      have : parts.toList = [] := by simpa using hq
      exact Array.toList_eq_nil_iff.1 this
    subst hp
    simp only [hsl, List.map_nil] at hc ⊢
    have hu := slEl_some hsl
    obtain ⟨h2, h1⟩ := hc
    have hr : (Instr.buildSlice T 0 ((#[] : Array (Nat × Operand)).map fun (i, x) => (i, ρ' x))).run P w = .ok (.slice (some ⟨w.heap.size, 0, none⟩) 0 0) (w.alloc (.cells #[] e)) := by
      unfold Instr.buildSlice
      simp [Sem.run_bind, run_underlying hu, run_sizeOf' h2, Instr.fill, newRow, Array.range_zero']
    obtain ⟨hL, hI'⟩ := hI.ext (.cells #[] e)
    exact ⟨_, _, A, X, hr, hL, Xle.refl X, hI', .pure (.emp _)⟩
  · exact hc.elim
theorem sMakeSlice_sound {own : Bool} {key : Nat} {T : TypeId} {l c : V} {ul uc : Value} (hI : Inv F w A X h) (hl : RV w A X l ul) (hcv : RV w A X c uc) (hc : (sMakeSlice P own key T l c h).c) :
    ∃ r w' A' X', (Instr.makeSlice T ul uc).run P w = .ok r w' ∧ Later w A w' A' ∧ Xle X X' ∧ Inv F w' A' X' (sMakeSlice P own key T l c h).h ∧ RV w' A' X' (sMakeSlice P own key T l c h).v r := by
  unfold sMakeSlice at hc ⊢
  split at hc
  · rename_i e k n k' m hsl
    have hu := slEl_some hsl
    rw [hl.int_inv, hcv.int_inv]
    have core : 0 ≤ n ∧ n ≤ m ∧ (zc P e).length = P.cellsOf e ∧ 0 < P.cellsOf e ∧ (zc P e).all V.cell1 = true ∧ m * P.bytesOf e ≤ 140737488355328 ∧ m ≤ 9223372036854775807 := by
      cases own <;> simp only [Bool.false_eq_true, if_false, if_true] at hc <;> exact hc
    obtain ⟨c1, c2, c3, c4, c5, c6, c7⟩ := core
    obtain ⟨i, zv, hi, hs, hz, hzc, hsz⟩ := zc_some c4 c3
    have hby : P.bytesOf e = i.bytes := by simp [Program.bytesOf, hi]
    have hr := run_make (P := P) w T e i zv hu hi hz k k' n m c1 c2 (by rw [hby] at c6; rw [Int.mul_comm]; omega) c7
    rw [hs] at hr
    have hmade : ∀ q, q ≤ m.toNat → ∀ (e1 j : Nat) (row : List V) (c : V), (List.replicate q (zc P e))[e1]? = some row → row[j]? = some c → ∃ u, (madeCells zv.cells (m.toNat * P.cellsOf e))[e1 * P.cellsOf e + j]? = some u ∧ u.oneCell' = true ∧ RV w A X c u ∧ (true = true → PV w A c u) := by
      intro q hq e1 j row c he hj
      have hlt : e1 < q := by have := (List.getElem?_eq_some_iff.1 he).1; simpa using this
      have hrow : row = zc P e := List.eq_of_mem_replicate (List.mem_of_getElem? he)
      subst hrow
      have hjl : j < zv.cells.size := by have := (List.getElem?_eq_some_iff.1 hj).1; omega
      have hg : (madeCells zv.cells (m.toNat * P.cellsOf e))[e1 * P.cellsOf e + j]? = zv.cells[j]? := by
        unfold madeCells; rw [← hsz]; exact zrow_get (by omega) hjl
      rw [hg]
      have hok := ofVal1_cells (w := w) (A := A) (X := X) (zs := zv.cells) (by rw [← hzc]; exact c5)
      rw [← hzc] at hok
      obtain ⟨u, k1, k2, k3⟩ := hok.2 j c hj
      refine ⟨u, k1, k2, k3, fun _ => ?_⟩
      rw [hzc] at hj
      obtain ⟨x, hx, hp⟩ := ofVal1_pv (w := w) (A := A) hj
      have hx' : zv.cells[j]? = some x := by simpa using hx
      rw [k1] at hx'; cases hx'; exact hp
    have hrep : ∀ q, ∀ row ∈ List.replicate q (zc P e), row.length = P.cellsOf e := fun q row hr => by rw [List.eq_of_mem_replicate hr]; exact c3
    have hmx : m.toNat ≤ maxLen := by simp only [maxLen]; omega
    cases own
    · simp only [Bool.false_eq_true, if_false] at hc ⊢
      have hI' := hI.alloc key { z := P.cellsOf e, els := List.replicate n.toNat (zc P e), ty := e } (madeCells zv.cells (m.toNat * P.cellsOf e)) m.toNat rfl (by simp; omega) hmx (hrep _) (size_madeCells _ _) (hmade n.toNat (by omega))
      refine ⟨_, _, _, _, hr, hI.later_alloc _, hI.xle_new key _ _, hI', ?_⟩
      exact .bsl _ _ _ _ _ (by simp [refsNew]) (by simp [refsNew]) (fun _ => by simp [refsNew, Hd.cap])
    · simp only [if_true] at hc ⊢
      have hI' := hI.alloc key { z := P.cellsOf e, els := List.replicate m.toNat (zc P e), ty := e } (madeCells zv.cells (m.toNat * P.cellsOf e)) m.toNat rfl (by simp) hmx (hrep _) (size_madeCells _ _) (hmade m.toNat (Nat.le_refl _))
      refine ⟨_, _, _, _, hr, hI.later_alloc _, hI.xle_new key _ _, hI', ?_⟩
      exact .osl _ _ _ _ _ _ _ _ (Nat.le_refl _) (by simp [refsNew]) (by simp [refsNew]) (fun _ => by simp [refsNew, Hd.cap])
  · exact hc.elim
omit [Gls] in
theorem Src.of_cells {z n : Nat} (hz : 0 < z) {b off c : Nat} {els : List (List V)} {cl : Bool} (hn : els.length = n) (hrows : ∀ row ∈ els, row.length = z)
    (hc : ∀ (e j : Nat) (row : List V) (x : V), els[e]? = some row → row[j]? = some x → ∃ u, w.cell? ⟨b, off + e * z + j, none⟩ = some u ∧ u.oneCell' = true ∧ RV w A X x u ∧ (cl = true → PV w A x u)) :
    ∃ news, Src P w A X z (.slice (some ⟨b, off, none⟩) n c) els cl news := by
  subst hn
  have hget : ∀ k, k < els.length * z → ∃ row x, els[k / z]? = some row ∧ row[k % z]? = some x := by
    intro k hk
    have h1 : k / z < els.length := (Nat.div_lt_iff_lt_mul hz).2 hk
    have h2 : (els[k / z]).length = z := hrows _ (List.getElem_mem h1)
    have h3 : k % z < (els[k / z]).length := by rw [h2]; exact Nat.mod_lt _ hz
    exact ⟨_, _, List.getElem?_eq_getElem h1, List.getElem?_eq_getElem h3⟩
  have hdm : ∀ k, off + k / z * z + k % z = off + k := fun k => by rw [Nat.add_assoc, Nat.mul_comm]; rw [Nat.div_add_mod]
  let f : Nat → Value := fun k => (w.cell? ⟨b, off + k, none⟩).getD und
  have hf : ∀ k, k < els.length * z → w.cell? ⟨b, off + k, none⟩ = some (f k) ∧ (f k).oneCell' = true := by
    intro k hk
    obtain ⟨row, x, h1, h2⟩ := hget k hk
    obtain ⟨u, g1, g2, _⟩ := hc _ _ _ _ h1 h2
    rw [hdm] at g1
    simp only [f, g1, Option.getD_some]; exact ⟨trivial, g2⟩
  refine ⟨(List.range (els.length * z)).map f, { shape := ⟨_, _, rfl⟩, run := ?_, run' := ?_, rows := hrows, len := by simp, cells := ?_, one := ?_ }⟩
  · simp only [Builtin.firstCells]
    exact run_loadCells w _ _ f fun j hj => by rw [addr_add]; exact (hf j hj).1
  · simp only [Builtin.firstCells]
    exact run_loadCells w.drew _ _ f fun j hj => by rw [addr_add]; exact (hf j hj).1
  · intro e j row x he hj
    have hj' : j < z := by rw [← hrows row (List.mem_of_getElem? he)]; exact (List.getElem?_eq_some_iff.1 hj).1
    have hk := idx_lt (List.getElem?_eq_some_iff.1 he).1 hj'
    obtain ⟨u, g1, g2, g3, g4⟩ := hc e j row x he hj
    refine ⟨u, ?_, g3, g4⟩
    rw [List.getElem?_map, List.getElem?_range hk]
    simp only [Option.map_some, f]
    rw [← Nat.add_assoc, g1]; rfl
  · intro u hu
    obtain ⟨k, hk, rfl⟩ := List.mem_map.1 hu
    exact (hf k (List.mem_range.1 hk)).2
omit [Gls] in
theorem Src.empty {z : Nat} (a : Option Addr) (c : Nat) (cl : Bool) : Src P w A X z (.slice a 0 c) [] cl [] := by
  refine { shape := ⟨a, c, rfl⟩, run := ?_, run' := ?_, rows := by simp, len := by simp, cells := by intro e j row c he; simp at he, one := by simp }
  · cases a <;> simp [Builtin.firstCells, loadCells, loadCellsFrom]
  · cases a <;> simp [Builtin.firstCells, loadCells, loadCellsFrom]
end
end Go.Sx
