/- A part of a proof; no conditions. -/
import Derived.Test.YtnpdjaikmdagmaaGreatDoorP25
import Derived.LaidMore
import Derived.OpenShut
import Derived.Test.YtnpdjaikmdagmaaGreatDoorP24
set_option linter.unusedSimpArgs false
set_option linter.unusedVariables false
set_option linter.unusedSectionVars false
section
/- What arguments read as, for any seat. No conditions. -/
set_option linter.unusedSimpArgs false
set_option maxRecDepth 100000
namespace Go.Sx
open Go.RowKit
variable [Gls]

section
variable {P : Program} {g : Nat} {t : TypeId} {vs : List V}
theorem tyV_fld {k o : Nat} {ft : TypeId} (h : tyV P (g + 1) t vs) (hf : fld P t k = some (o, ft)) : tyV P g ft ((vs.drop o).take (P.cellsOf ft)) := by
  simp only [tyV] at h
  unfold fld at hf
  cases hu : P.underlying t with
  | none => simp [hu] at hf
  | some u =>
    rw [hu] at h hf
    cases u <;> simp only at h hf <;> try (cases hf; done)
    rename_i fs
    cases hk : fs[k]? with
    | none => simp [hk] at hf
    | some fl =>
      simp only [hk, Option.map_some, Option.some.injEq, Prod.mk.injEq] at hf
      obtain ⟨rfl, rfl⟩ := hf
      exact h.2 fl (Array.mem_toList_iff.2 (Array.mem_of_getElem? hk))
theorem tyV_len (h : tyV P (g + 1) t vs) (ha : isAg P t = true) : vs.length = P.cellsOf t := by
  simp only [tyV] at h
  unfold isAg at ha
  cases hu : P.underlying t with
  | none => simp [hu] at ha
  | some u =>
    rw [hu] at h ha
    cases u <;> simp only at h ha <;> first | (cases ha; done) | exact h.1
theorem tyV_int {k : IntKind} (h : tyV P (g + 1) t vs) (hk : intK P t = some k) : ∃ n, vs = [.int k n] ∧ (Lit.int k n).wf = true := by
  simp only [tyV] at h
  unfold intK at hk
  cases hu : P.underlying t with
  | none => simp [hu] at hk
  | some u =>
    rw [hu] at h hk
    cases u <;> simp only at h hk <;> try (cases hk; done)
    cases hk
    exact h
theorem tyV_sl {e : TypeId} (h : tyV P (g + 1) t vs) (hk : slEl P t = some e) : ∃ els, vs = [.sl (P.cellsOf e) els] ∧ els.length ≤ 9223372036854775807 ∧ ∀ row ∈ els, tyV P g e row := by
  simp only [tyV] at h
  unfold slEl at hk
  cases hu : P.underlying t with
  | none => simp [hu] at hk
  | some u =>
    rw [hu] at h hk
    cases u <;> simp only at h hk <;> try (cases hk; done)
    cases hk
    obtain ⟨els, h1, h2, _, h3⟩ := h
    exact ⟨els, h1, by simpa [maxLen] using h2, h3⟩
/-- The same, with the bound of memory. -/
theorem tyV_slw {e : TypeId} (h : tyV P (g + 1) t vs) (hk : slEl P t = some e) : ∃ els, vs = [.sl (P.cellsOf e) els] ∧ els.length * P.bytesOf e ≤ 140737488351232 ∧ ∀ row ∈ els, tyV P g e row := by
  simp only [tyV] at h
  unfold slEl at hk
  cases hu : P.underlying t with
  | none => simp [hu] at hk
  | some u =>
    rw [hu] at h hk
    cases u <;> simp only at h hk <;> try (cases hk; done)
    cases hk
    obtain ⟨els, h1, _, h2, h3⟩ := h
    exact ⟨els, h1, by simpa [reachBytes] using h2, h3⟩
theorem tyV_arr {n : Nat} {e : TypeId} (h : tyV P (g + 1) t vs) (hk : arEl P t = some (n, e)) : ∀ i, i < n → tyV P g e ((vs.drop (i * P.cellsOf e)).take (P.cellsOf e)) := by
  simp only [tyV] at h
  unfold arEl at hk
  cases hu : P.underlying t with
  | none => simp [hu] at hk
  | some u =>
    rw [hu] at h hk
    cases u <;> simp only at h hk <;> try (cases hk; done)
    cases hk
    exact h.2
theorem argTy_one {x : V} (h : argTy P g t x) (ha : isAg P t = false) : tyV P g t [x] := by
  unfold argTy at h; rw [if_neg (by rw [ha]; decide)] at h; exact h
theorem argTy_agg {x : V} (h : argTy P g t x) (ha : isAg P t = true) : ∃ vs, x = .agg vs ∧ tyV P g t vs := by
  unfold argTy at h; rw [if_pos ha] at h; exact h
end

end Go.Sx
end
section
/- A law whose program keeps package variables that are laid: whatever it is handed, it returns true. No conditions. -/
set_option linter.unusedSimpArgs false
set_option linter.unusedSectionVars false
namespace Go.Sx
open Go.RowKit
variable [Gls]

theorem law_laid {C : Checked} {os : Os} (started : os.Started) {H : Type} {enc : TypeId × Value → H} {f : FuncId} {fn : Func} {s : ChangeSpec} {S : PSpec} {X : World → Array Value → Prop} (g : Nat) (tb : TypeId)
    (hX : ∀ (w w' : World) (args : Array Value), w.heap = w'.heap → X w args → X w' args) (hGl : ∀ w args, X w args → GOK w (fun _ => False))
    (hown : ownKnob C.prog.godebug = none) (hl : laidOutB C.prog = true) (hin : C.prog.inits.idxOf? f = none) (hf : C.prog.funcs[f]? = some fn) (hOK : FnOK C.prog f (.pure S))
    (hvars : s.vars = []) (hspec : ∀ ds : List (DataW H), ds.length = fn.params.size → s.fn H ds = { results := [.lit (.bool true)], args := ds })
    (hrt : fn.resultTypes = #[tb]) (htb : C.prog.underlying tb = some .bool) (hpl : fn.params.toList.all (argB C.prog g) = true)
    (hopen : ∀ xs : List V, xs.length = fn.params.size → (∀ (i : Nat) t x, fn.params.toList[i]? = some t → xs[i]? = some x → argTy C.prog g t x) → ∃ d, S.pre d ∧ S.res d = .bool true ∧ S.enc d = xs)
    (witness : ∃ (w : World) (tape : Tape) (i : Input), w.os = os ∧ (w.forCall tape i).Shaped C.prog ∧ i.vars = [] ∧ Input.okWide C.prog (w.forCall tape i) .any w.heap.size f i ∧
      ((s.pre enc C.prog fn [] false (w.forCall tape i).memory i.args ∧ X (w.forCall tape i).memory i.args) ∧ sizedMet enc C.prog fn (OpenSpec.ofChange s) false (w.forCall tape i).memory i.args) ∧ ({} : Assume).holds C.prog (lone (Frame.enter C.prog f i.args .normal) [] (w.forCall tape i))) :
    ReturnsInHanded {} C os f .any (fun w args => (s.pre enc C.prog fn [] false w args ∧ X w args) ∧ sizedMet enc C.prog fn (OpenSpec.ofChange s) false w args) (s.post enc C.prog fn false true false false) := by
  refine returnsInHanded_of_change_and hX hown started hin hf witness ?_
  intro W base args ds gs before hval hW _ hwt hx _
  have hW' := hW
  obtain ⟨p, q, hA, hV, rfl, hfz, hnd⟩ := hW
  rw [hvars] at hV
  have hgs : gs = [] ∧ q = [] := by
    cases gs with
    | nil => exact ⟨rfl, hV⟩
    | cons a b => exact hV.elim
  obtain ⟨rfl, rfl⟩ := hgs
  rw [show s.plain.varTypes C.prog = [] by unfold ChangeSpec.plain DataSpec.varTypes; simp [hvars], List.append_nil, List.append_nil, List.all_eq_true] at hwt
  obtain ⟨e1, e2, xs, e3, e4, e5⟩ := args_read (g := g) _ _ _ _ hA (fun n hn => by simpa using hwt n hn) (fun j t v ht hv => hval j t v (by simpa using ht) (by simpa using hv)) hpl
  obtain ⟨d, hd1, hd2, hd3⟩ := hopen xs (by simpa using e3) e4
  refine ((hOK.pure S rfl) d hd1 W (fun _ => False) args (hGl _ _ hx) (fun _ h => h.elim) (by rw [hd3, e3]; simpa using e1) (fun i c hc => ?_)).mono fun e W' hres => ?_
  · rw [hd3] at hc
    have := e5 i c hc
    simpa [Array.getD_eq_getD_getElem?, List.getD_eq_getElem?_getD] using this
  obtain ⟨v, rfl, hb, hv⟩ := hres
  rw [hd2] at hv
  cases hv
  refine ⟨_, rfl, ds, [], p ++ [], [], p, [], hW', ?_, ?_, ?_, hb.frame _, fun h => by cases h⟩
  · rw [hrt]
    have h1 : s.fn H (ds ++ []) = { results := [.lit (.bool true)], args := ds } := by rw [List.append_nil]; exact hspec ds (by simpa using e2)
    rw [h1]
    exact ⟨[], [], shut_bool htb true, rfl, rfl⟩
  · have h1 : s.fn H (ds ++ []) = { results := [.lit (.bool true)], args := ds } := by rw [List.append_nil]; exact hspec ds (by simpa using e2)
    rw [h1]
    exact args_below hl hb _ _ _ _ hA hpl (fun x hx => hW'.lt x (by simpa using hx))
  · rw [hvars]
    have h1 : s.fn H (ds ++ []) = { results := [.lit (.bool true)], args := ds } := by rw [List.append_nil]; exact hspec ds (by simpa using e2)
    rw [h1]
    exact rfl

/-- A variable that holds two numbers. -/
theorem pair_laid {P : Program} {w : World} {n : String} {g : Nat} {t e : TypeId} {cs : Array Value} {fuel : Nat} {a b : Int} {p : List MemPlace} (hg : P.globalNamed n = some g) (hv : w.var? P n = some cs)
    (ht : P.underlying t = some (.array 2 e)) (he : P.underlying e = some (.int .i64)) (hc : P.cellsOf e = 1)
    (hd : DataW.trod (fun _ => ()) P w 0 (fun _ => true) false fuel t cs.toList = some (.agg [.lit (.int .i64 a), .lit (.int .i64 b)], p)) :
    PV w (fun _ => False) (.ip 2 [[.int .i64 a, .int .i64 b]] 0 0) (.pointer (some ⟨g, 0, none⟩)) := by
  obtain ⟨xs, m, _, ex, _, hl, hel⟩ := DataW.trod_array ht hd
  have h0 := hel 0 (by omega)
  have h1 := hel 1 (by omega)
  match xs, hl with
  | [x0, x1], _ =>
    simp only [List.map_cons, List.map_nil, Prod.mk.injEq, DataW.agg.injEq, List.cons.injEq, and_true] at ex
    obtain ⟨⟨ex0, ex1⟩, _⟩ := ex
    rw [hc] at h0 h1
    simp only [List.getElem?_cons_zero, List.getElem?_cons_succ] at h0 h1
    obtain ⟨n0, c0, d0, _⟩ := DataW.trod_int he h0
    obtain ⟨n1, c1, d1, _⟩ := DataW.trod_int he h1
    rw [d0] at ex0
    rw [d1] at ex1
    simp only [DataW.lit.injEq, Lit.int.injEq, true_and] at ex0 ex1
    subst ex0; subst ex1
    have g0 : cs[0]? = some (.int .i64 a) := by
      have : ((cs.toList.drop (0 * 1)).take 1)[0]? = some (.int .i64 a) := by rw [c0]; rfl
      simpa using this
    have g1 : cs[1]? = some (.int .i64 b) := by
      have : ((cs.toList.drop (1 * 1)).take 1)[0]? = some (.int .i64 b) := by rw [c1]; rfl
      simpa using this
    have k0 := World.var?_cell hg hv 0
    have k1 := World.var?_cell hg hv 1
    rw [g0] at k0
    rw [g1] at k1
    have hb : g < w.heap.size := by
      cases hh : w.heap[g]? with
      | none => simp [World.cell?, hh] at k0
      | some o => exact (Array.getElem?_eq_some_iff.1 hh).1
    refine .ip 2 [[.int .i64 a, .int .i64 b]] 0 0 g 0 (fun _ j => if j = 0 then .int .i64 a else .int .i64 b) hb (fun h => h) (fun row hr => ?_) (fun e j row c h1 h2 => ?_) (fun e j row c h1 h2 => ?_)
    · simp at hr; subst hr; rfl
    · match e, h1 with
      | 0, h1 =>
        cases h1
        match j, h2 with
        | 0, h2 => exact ⟨by simpa using k0, rfl⟩
        | 1, h2 => exact ⟨by simpa using k1, rfl⟩
    · match e, h1 with
      | 0, h1 =>
        cases h1
        match j, h2 with
        | 0, h2 => cases h2; exact .int _ _
        | 1, h2 => cases h2; exact .int _ _
end Go.Sx
end
section
/- What the arguments of this seat's laws read as (hangar, and what has changed). No conditions. -/
set_option linter.unusedSimpArgs false
set_option linter.unusedSectionVars false
set_option maxRecDepth 100000
namespace Go.Sx
open Go.Proofs Go.RowKit

theorem int_cell {g : Nat} {vs : List V} (h : tyV Tryz.prog (g + 1) 3 vs) : ∃ n, vs = [.int .i64 n] := by
  obtain ⟨n, h1, _⟩ := tyV_int h Ty.ik3
  exact ⟨n, h1⟩
theorem int_of {g : Nat} {x : V} (h : argTy Tryz.prog (g + 1) 3 x) : ∃ n, x = .int .i64 n := by
  obtain ⟨n, h1⟩ := int_cell (argTy_one h Ty.ag3)
  exact ⟨n, by simpa using h1⟩

theorem tyV_bool {P : Program} {g : Nat} {t : TypeId} {vs : List V} (h : tyV P (g + 1) t vs) (hk : P.underlying t = some .bool) : ∃ b, vs = [.bool b] := by
  simp only [tyV, hk] at h; exact h
theorem bool_cell {g : Nat} {vs : List V} (h : tyV Tryz.prog (g + 1) 4 vs) : ∃ n, vs = [.bool n] := tyV_bool h (by kernel_rfl)
theorem pair_cell {g : Nat} {vs : List V} (h : tyV Tryz.prog (g + 2) 41 vs) : ∃ p : Int × Int, vs = cycV p := by
  have hl := tyV_len h Ty.ag41
  rw [Ty.cz41] at hl
  have ha := tyV_arr h Ty.ae41
  obtain ⟨a, ea⟩ := int_cell (ha 0 (by omega))
  obtain ⟨b, eb⟩ := int_cell (ha 1 (by omega))
  rw [Ty.cz3] at ea eb
  match vs, hl with
  | [x, y], _ =>
    simp at ea eb
    subst ea eb
    exact ⟨(a, b), rfl⟩
theorem kd_cell {g : Nat} {vs : List V} (h : tyV Tryz.prog (g + 2) 76 vs) : ∃ p : Kd, vs = Kd.row p := by
  have hl := tyV_len h Ty.ag76
  rw [Ty.cz76] at hl
  obtain ⟨n0, e0⟩ := int_cell (tyV_fld h Ty.fd76_0)
  obtain ⟨n1, e1⟩ := int_cell (tyV_fld h Ty.fd76_1)
  obtain ⟨n2, e2⟩ := int_cell (tyV_fld h Ty.fd76_2)
  rw [Ty.cz3] at e0 e1 e2
  match vs, hl with
  | [x0, x1, x2], _ =>
    simp at e0 e1 e2
    subst e0 e1 e2
    exact ⟨⟨n0, n1, n2⟩, rfl⟩
theorem pt_cell {g : Nat} {vs : List V} (h : tyV Tryz.prog (g + 2) 46 vs) : ∃ p : Pt, vs = Pt.row p := by
  have hl := tyV_len h Ty.ag46
  rw [Ty.cz46] at hl
  obtain ⟨n0, e0⟩ := int_cell (tyV_fld h Ty.fd46_0)
  obtain ⟨n1, e1⟩ := int_cell (tyV_fld h Ty.fd46_1)
  obtain ⟨n2, e2⟩ := int_cell (tyV_fld h Ty.fd46_2)
  obtain ⟨n3, e3⟩ := bool_cell (tyV_fld h Ty.fd46_3)
  rw [Ty.cz3] at e0 e1 e2
  rw [Ty.cz4] at e3
  match vs, hl with
  | [x0, x1, x2, x3], _ =>
    simp at e0 e1 e2 e3
    subst e0 e1 e2 e3
    exact ⟨⟨n0, n1, n2, n3⟩, rfl⟩
theorem od_cell {g : Nat} {vs : List V} (h : tyV Tryz.prog (g + 2) 140 vs) : ∃ p : Od, vs = Od.row p := by
  have hl := tyV_len h Ty.ag140
  rw [Ty.cz140] at hl
  obtain ⟨n0, e0⟩ := int_cell (tyV_fld h Ty.fd140_0)
  obtain ⟨n1, e1⟩ := int_cell (tyV_fld h Ty.fd140_1)
  rw [Ty.cz3] at e0 e1
  match vs, hl with
  | [x0, x1], _ =>
    simp at e0 e1
    subst e0 e1
    exact ⟨⟨n0, n1⟩, rfl⟩
theorem wk_cell {g : Nat} {vs : List V} (h : tyV Tryz.prog (g + 2) 119 vs) : ∃ p : Wk, vs = Wk.row p := by
  have hl := tyV_len h Ty.ag119
  rw [Ty.cz119] at hl
  obtain ⟨n0, e0⟩ := int_cell (tyV_fld h Ty.fd119_0)
  obtain ⟨n1, e1⟩ := int_cell (tyV_fld h Ty.fd119_1)
  obtain ⟨n2, e2⟩ := int_cell (tyV_fld h Ty.fd119_2)
  obtain ⟨n3, e3⟩ := int_cell (tyV_fld h Ty.fd119_3)
  rw [Ty.cz3] at e0 e1 e2 e3
  match vs, hl with
  | [x0, x1, x2, x3], _ =>
    simp at e0 e1 e2 e3
    subst e0 e1 e2 e3
    exact ⟨⟨n0, n1, n2, n3⟩, rfl⟩
theorem kds_cell {g : Nat} {vs : List V} (h : tyV Tryz.prog (g + 3) 22 vs) : ∃ l : List Kd, vs = [.sl 3 (l.map Kd.row)] ∧ l.length ≤ 10000000000000 := by
  obtain ⟨els, h1, h2, h3⟩ := tyV_slw h Ty.se22
  obtain ⟨l, hl⟩ := rows_map (R := Kd.row) (els := els) (fun row hr => kd_cell (h3 row hr))
  subst hl
  rw [Ty.cz76] at h1
  rw [Ty.by76] at h2
  exact ⟨l, h1, by simp at h2; omega⟩
theorem pts_cell {g : Nat} {vs : List V} (h : tyV Tryz.prog (g + 3) 23 vs) : ∃ l : List Pt, vs = [.sl 4 (l.map Pt.row)] ∧ l.length ≤ 10000000000000 := by
  obtain ⟨els, h1, h2, h3⟩ := tyV_slw h Ty.se23
  obtain ⟨l, hl⟩ := rows_map (R := Pt.row) (els := els) (fun row hr => pt_cell (h3 row hr))
  subst hl
  rw [Ty.cz46] at h1
  rw [Ty.by46] at h2
  exact ⟨l, h1, by simp at h2; omega⟩
theorem ods_cell {g : Nat} {vs : List V} (h : tyV Tryz.prog (g + 3) 24 vs) : ∃ l : List Od, vs = [.sl 2 (l.map Od.row)] ∧ l.length ≤ 10000000000000 := by
  obtain ⟨els, h1, h2, h3⟩ := tyV_slw h Ty.se24
  obtain ⟨l, hl⟩ := rows_map (R := Od.row) (els := els) (fun row hr => od_cell (h3 row hr))
  subst hl
  rw [Ty.cz140] at h1
  rw [Ty.by140] at h2
  exact ⟨l, h1, by simp at h2; omega⟩
theorem wks_cell {g : Nat} {vs : List V} (h : tyV Tryz.prog (g + 3) 27 vs) : ∃ l : List Wk, vs = [.sl 4 (l.map Wk.row)] ∧ l.length ≤ 4398046510976 := by
  obtain ⟨els, h1, h2, h3⟩ := tyV_slw h Ty.se27
  obtain ⟨l, hl⟩ := rows_map (R := Wk.row) (els := els) (fun row hr => wk_cell (h3 row hr))
  subst hl
  rw [Ty.cz119] at h1
  rw [Ty.by119] at h2
  exact ⟨l, h1, by simp at h2; omega⟩
theorem wks_of {g : Nat} {x : V} (h : argTy Tryz.prog (g + 3) 27 x) : ∃ l : List Wk, x = .sl 4 (l.map Wk.row) ∧ l.length ≤ 4398046510976 := by
  obtain ⟨l, h1, h2⟩ := wks_cell (argTy_one h Ty.ag27)
  exact ⟨l, by simpa using h1, h2⟩
theorem reg_of {g : Nat} {x : V} (h : argTy Tryz.prog (g + 4) 26 x) : ∃ r : Reg, x = .agg r.row ∧ r.kinds.length ≤ 10000000000000 ∧ r.parts.length ≤ 10000000000000 ∧ r.orders.length ≤ 10000000000000 := by
  obtain ⟨vs, e, k⟩ := argTy_agg h Ty.ag26
  subst e
  have hl := tyV_len k Ty.ag26
  rw [Ty.cz26] at hl
  obtain ⟨a, e0, b0⟩ := kds_cell (tyV_fld k Ty.fd26_0)
  obtain ⟨b, e1, b1⟩ := pts_cell (tyV_fld k Ty.fd26_1)
  obtain ⟨m, e2⟩ := int_cell (tyV_fld k Ty.fd26_2)
  obtain ⟨o, e3, b3⟩ := ods_cell (tyV_fld k Ty.fd26_3)
  rw [Ty.cz22] at e0
  rw [Ty.cz23] at e1
  rw [Ty.cz3] at e2
  rw [Ty.cz24] at e3
  match vs, hl with
  | [x0, x1, x2, x3], _ =>
    simp at e0 e1 e2 e3
    subst e0 e1 e2 e3
    exact ⟨⟨a, b, m, o⟩, rfl, b0, b1, b3⟩
structure ToD where
  m : Int
  pl : List (Int × Int)
  ch : List (Int × Int)
theorem prs_cell {g : Nat} {vs : List V} (h : tyV Tryz.prog (g + 3) 33 vs) : ∃ l : List (Int × Int), vs = [.sl 2 (l.map cycV)] ∧ l.length ≤ 8796093021952 := by
  obtain ⟨els, h1, h2, h3⟩ := tyV_slw h Ty.se33
  obtain ⟨l, hl⟩ := rows_map (R := cycV) (els := els) (fun row hr => pair_cell (h3 row hr))
  subst hl
  rw [Ty.cz41] at h1
  rw [Ty.by41] at h2
  exact ⟨l, h1, by simp at h2; omega⟩
theorem told_of {g : Nat} {x : V} (h : argTy Tryz.prog (g + 4) 54 x) : ∃ q : ToD, x = .agg [.int .i64 q.m, .sl 2 (q.pl.map cycV), .sl 2 (q.ch.map cycV)] ∧ q.pl.length ≤ 8796093021952 ∧ q.ch.length ≤ 8796093021952 := by
  obtain ⟨vs, e, k⟩ := argTy_agg h Ty.ag54
  subst e
  have hl := tyV_len k Ty.ag54
  rw [Ty.cz54] at hl
  obtain ⟨n0, e0⟩ := int_cell (tyV_fld k Ty.fd54_0)
  obtain ⟨p, e1, b1⟩ := prs_cell (tyV_fld k Ty.fd54_1)
  obtain ⟨c, e2, b2⟩ := prs_cell (tyV_fld k Ty.fd54_2)
  rw [Ty.cz3] at e0
  rw [Ty.cz33] at e1 e2
  match vs, hl with
  | [x0, x1, x2], _ =>
    simp at e0 e1 e2
    subst e0 e1 e2
    exact ⟨⟨n0, p, c⟩, rfl, b1, b2⟩
theorem rl_fine {r : Reg} {l : List Wk} (h1 : r.kinds.length ≤ 10000000000000) (h2 : r.parts.length ≤ 10000000000000) (h3 : r.orders.length ≤ 10000000000000) (h4 : l.length ≤ 4398046510976) : RL.Fine ⟨r, l⟩ := by
  refine ⟨?_, ?_, ?_, ?_⟩ <;> simp only <;> omega
abbrev laidL : List (String × DataW Unit) := [("swashplate/parts.store", .agg [.lit (.int .i64 (-1)), .lit (.int .i64 (-1))]), ("swashplate/parts.scrap", .agg [.lit (.int .i64 (-2)), .lit (.int .i64 (-2))])]
theorem laid_gok {W : World} (h : laidMetH Tryz.prog laidL W) : GOK W (fun _ => False) := by
  rw [MakeChecks.laidMetH_plain _ _ _ (by kernel_rfl)] at h
  obtain ⟨ps, ⟨g, t, cs, fuel, p, q, hg, ht, hv, hd, ⟨g', t', cs', fuel', p', q', hg', ht', hv', hd', _⟩, _⟩, _⟩ := h
  obtain rfl := Option.some.inj ((show Tryz.prog.globalNamed "swashplate/parts.store" = some 0 by kernel_rfl).symm.trans hg)
  obtain rfl := Option.some.inj ((show Tryz.prog.globalNamed "swashplate/parts.scrap" = some 1 by kernel_rfl).symm.trans hg')
  obtain rfl := Option.some.inj ((show (Tryz.prog.globals[0]?).map (·.type) = some 83 by kernel_rfl).symm.trans ht)
  obtain rfl := Option.some.inj ((show (Tryz.prog.globals[1]?).map (·.type) = some 83 by kernel_rfl).symm.trans ht')
  have h1 := pair_laid hg hv (by kernel_rfl) (show Tryz.prog.underlying 3 = some (.int .i64) by kernel_rfl) Ty.cz3 hd
  have h0 := pair_laid hg' hv' (by kernel_rfl) (show Tryz.prog.underlying 3 = some (.int .i64) by kernel_rfl) Ty.cz3 hd'
  intro k v hk
  have hk' : (if k = 0 then some (V.ip 2 [[.int .i64 (-1), .int .i64 (-1)]] 0 0) else if k = 1 then some (.ip 2 [[.int .i64 (-2), .int .i64 (-2)]] 0 0) else none) = some v := hk
  split at hk'
  · rename_i e; subst e; cases hk'; exact h1
  · split at hk'
    · rename_i e; subst e; cases hk'; exact h0
    · cases hk'
end Go.Sx
end
