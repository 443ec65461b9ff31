/- A part of a proof; no conditions. -/
import Derived.Test.YtcbcajnkdknkdaaDoorP23
import Derived.LaidMore
import Derived.OpenShut
import Derived.Test.YtcbcajnkdknkdaaDoorP16
set_option linter.unusedSimpArgs false
set_option linter.unusedVariables false
set_option linter.unusedSectionVars false
section
/- A law whose program keeps package variables that are laid: whatever it is handed, it returns true. No conditions. -/
set_option linter.unusedSimpArgs false
set_option linter.unusedSectionVars false
namespace Go.Sx
open Go.RowKit
variable [Gls]

theorem law_laid {C : Checked} {os : Os} (started : os.Started) {H : Type} {enc : TypeId × Value → H} {f : FuncId} {fn : Func} {s : ChangeSpec} {S : PSpec} {X : World → Array Value → Prop} (g : Nat) (tb : TypeId)
    (hX : ∀ (w w' : World) (args : Array Value), w.heap = w'.heap → X w args → X w' args) (hGl : ∀ w args, X w args → GOK w (fun _ => False))
    (hown : ownKnob C.prog.godebug = none) (hl : laidOutB C.prog = true) (hin : C.prog.inits.idxOf? f = none) (hf : C.prog.funcs[f]? = some fn) (hOK : FnOK C.prog f (.pure S))
    (hvars : s.vars = []) (hspec : ∀ ds : List (DataW H), ds.length = fn.params.size → s.fn H ds = { results := [.lit (.bool true)], args := ds })
    (hrt : fn.resultTypes = #[tb]) (htb : C.prog.underlying tb = some .bool) (hpl : fn.params.toList.all (argB C.prog g) = true)
    (hopen : ∀ xs : List V, xs.length = fn.params.size → (∀ (i : Nat) t x, fn.params.toList[i]? = some t → xs[i]? = some x → argTy C.prog g t x) → ∃ d, S.pre d ∧ S.res d = .bool true ∧ S.enc d = xs)
    (witness : ∃ (w : World) (tape : Tape) (i : Input), w.os = os ∧ (w.forCall tape i).Shaped C.prog ∧ i.vars = [] ∧ Input.okWide C.prog (w.forCall tape i) .any w.heap.size f i ∧
      ((s.pre enc C.prog fn [] false (w.forCall tape i).memory i.args ∧ X (w.forCall tape i).memory i.args) ∧ sizedMet enc C.prog fn (OpenSpec.ofChange s) false (w.forCall tape i).memory i.args) ∧ ({} : Assume).holds C.prog (lone (Frame.enter C.prog f i.args .normal) [] (w.forCall tape i))) :
    ReturnsInHanded {} C os f .any (fun w args => (s.pre enc C.prog fn [] false w args ∧ X w args) ∧ sizedMet enc C.prog fn (OpenSpec.ofChange s) false w args) (s.post enc C.prog fn false true false false) := by
  refine returnsInHanded_of_change_and hX hown started hin hf witness ?_
  intro W base args ds gs before hval hW _ hwt hx _
  have hW' := hW
  obtain ⟨p, q, hA, hV, rfl, hfz, hnd⟩ := hW
  rw [hvars] at hV
  have hgs : gs = [] ∧ q = [] := by
    cases gs with
    | nil => exact ⟨rfl, hV⟩
    | cons a b => exact hV.elim
  obtain ⟨rfl, rfl⟩ := hgs
  rw [show s.plain.varTypes C.prog = [] by unfold ChangeSpec.plain DataSpec.varTypes; simp [hvars], List.append_nil, List.append_nil, List.all_eq_true] at hwt
  obtain ⟨e1, e2, xs, e3, e4, e5⟩ := args_read (g := g) _ _ _ _ hA (fun n hn => by simpa using hwt n hn) (fun j t v ht hv => hval j t v (by simpa using ht) (by simpa using hv)) hpl
  obtain ⟨d, hd1, hd2, hd3⟩ := hopen xs (by simpa using e3) e4
  refine ((hOK.pure S rfl) d hd1 W (fun _ => False) args (hGl _ _ hx) (fun _ h => h.elim) (by rw [hd3, e3]; simpa using e1) (fun i c hc => ?_)).mono fun e W' hres => ?_
  · rw [hd3] at hc
    have := e5 i c hc
    simpa [Array.getD_eq_getD_getElem?, List.getD_eq_getElem?_getD] using this
  obtain ⟨v, rfl, hb, hv⟩ := hres
  rw [hd2] at hv
  cases hv
  refine ⟨_, rfl, ds, [], p ++ [], [], p, [], hW', ?_, ?_, ?_, hb.frame _, fun h => by cases h⟩
  · rw [hrt]
    have h1 : s.fn H (ds ++ []) = { results := [.lit (.bool true)], args := ds } := by rw [List.append_nil]; exact hspec ds (by simpa using e2)
    rw [h1]
    exact ⟨[], [], shut_bool htb true, rfl, rfl⟩
  · have h1 : s.fn H (ds ++ []) = { results := [.lit (.bool true)], args := ds } := by rw [List.append_nil]; exact hspec ds (by simpa using e2)
    rw [h1]
    exact args_below hl hb _ _ _ _ hA hpl (fun x hx => hW'.lt x (by simpa using hx))
  · rw [hvars]
    have h1 : s.fn H (ds ++ []) = { results := [.lit (.bool true)], args := ds } := by rw [List.append_nil]; exact hspec ds (by simpa using e2)
    rw [h1]
    exact rfl

/-- A variable that holds two numbers. -/
theorem pair_laid {P : Program} {w : World} {n : String} {g : Nat} {t e : TypeId} {cs : Array Value} {fuel : Nat} {a b : Int} {p : List MemPlace} (hg : P.globalNamed n = some g) (hv : w.var? P n = some cs)
    (ht : P.underlying t = some (.array 2 e)) (he : P.underlying e = some (.int .i64)) (hc : P.cellsOf e = 1)
    (hd : DataW.trod (fun _ => ()) P w 0 (fun _ => true) false fuel t cs.toList = some (.agg [.lit (.int .i64 a), .lit (.int .i64 b)], p)) :
    PV w (fun _ => False) (.ip 2 [[.int .i64 a, .int .i64 b]] 0 0) (.pointer (some ⟨g, 0, none⟩)) := by
  obtain ⟨xs, m, _, ex, _, hl, hel⟩ := DataW.trod_array ht hd
  have h0 := hel 0 (by omega)
  have h1 := hel 1 (by omega)
  match xs, hl with
  | [x0, x1], _ =>
    simp only [List.map_cons, List.map_nil, Prod.mk.injEq, DataW.agg.injEq, List.cons.injEq, and_true] at ex
    obtain ⟨⟨ex0, ex1⟩, _⟩ := ex
    rw [hc] at h0 h1
    simp only [List.getElem?_cons_zero, List.getElem?_cons_succ] at h0 h1
    obtain ⟨n0, c0, d0, _⟩ := DataW.trod_int he h0
    obtain ⟨n1, c1, d1, _⟩ := DataW.trod_int he h1
    rw [d0] at ex0
    rw [d1] at ex1
    simp only [DataW.lit.injEq, Lit.int.injEq, true_and] at ex0 ex1
    subst ex0; subst ex1
    have g0 : cs[0]? = some (.int .i64 a) := by
      have : ((cs.toList.drop (0 * 1)).take 1)[0]? = some (.int .i64 a) := by rw [c0]; rfl
      simpa using this
    have g1 : cs[1]? = some (.int .i64 b) := by
      have : ((cs.toList.drop (1 * 1)).take 1)[0]? = some (.int .i64 b) := by rw [c1]; rfl
      simpa using this
    have k0 := World.var?_cell hg hv 0
    have k1 := World.var?_cell hg hv 1
    rw [g0] at k0
    rw [g1] at k1
    have hb : g < w.heap.size := by
      cases hh : w.heap[g]? with
      | none => simp [World.cell?, hh] at k0
      | some o => exact (Array.getElem?_eq_some_iff.1 hh).1
    refine .ip 2 [[.int .i64 a, .int .i64 b]] 0 0 g 0 (fun _ j => if j = 0 then .int .i64 a else .int .i64 b) hb (fun h => h) (fun row hr => ?_) (fun e j row c h1 h2 => ?_) (fun e j row c h1 h2 => ?_)
    · simp at hr; subst hr; rfl
    · match e, h1 with
      | 0, h1 =>
        cases h1
        match j, h2 with
        | 0, h2 => exact ⟨by simpa using k0, rfl⟩
        | 1, h2 => exact ⟨by simpa using k1, rfl⟩
    · match e, h1 with
      | 0, h1 =>
        cases h1
        match j, h2 with
        | 0, h2 => cases h2; exact .int _ _
        | 1, h2 => cases h2; exact .int _ _
end Go.Sx
end
section
/- What the arguments of this seat's laws read as (parts), and what its variables hold. No conditions. -/
set_option linter.unusedSimpArgs false
set_option linter.unusedSectionVars false
set_option maxRecDepth 100000
namespace Go.Sx
open Go.Proofs Go.RowKit

theorem tyV_bool {P : Program} {g : Nat} {t : TypeId} {vs : List V} (h : tyV P (g + 1) t vs) (hk : P.underlying t = some .bool) : ∃ b, vs = [.bool b] := by
  simp only [tyV, hk] at h; exact h
theorem int_cell {g : Nat} {vs : List V} (h : tyV Tryd.prog (g + 1) 3 vs) : ∃ n, vs = [.int .i64 n] := by
  obtain ⟨n, h1, _⟩ := tyV_int h Ty.ik3
  exact ⟨n, h1⟩
theorem bool_cell {g : Nat} {vs : List V} (h : tyV Tryd.prog (g + 1) 4 vs) : ∃ n, vs = [.bool n] := tyV_bool h (by kernel_rfl)
theorem int_of {g : Nat} {x : V} (h : argTy Tryd.prog (g + 1) 3 x) : ∃ n, x = .int .i64 n := by
  obtain ⟨n, h1⟩ := int_cell (argTy_one h Ty.ag3)
  exact ⟨n, by simpa using h1⟩
theorem ints_cell {g : Nat} {vs : List V} (h : tyV Tryd.prog (g + 2) 22 vs) : ∃ l : List Int, vs = [ints l] ∧ l.length ≤ 17592186043904 := by
  obtain ⟨els, h1, h2, h3⟩ := tyV_slw h Ty.se22
  obtain ⟨l, hl⟩ := rows_map (R := ri) (els := els) (fun row hr => int_cell (h3 row hr))
  subst hl
  rw [Ty.cz3] at h1
  rw [Ty.by3] at h2
  exact ⟨l, h1, by simp at h2; omega⟩
theorem ints_of {g : Nat} {x : V} (h : argTy Tryd.prog (g + 2) 22 x) : ∃ l : List Int, x = ints l ∧ l.length ≤ 17592186043904 := by
  obtain ⟨l, h1, h2⟩ := ints_cell (argTy_one h Ty.ag22)
  exact ⟨l, by simpa using h1, h2⟩
theorem pair_cell {g : Nat} {vs : List V} (h : tyV Tryd.prog (g + 2) 30 vs) : ∃ p : Int × Int, vs = cycV p := by
  have hl := tyV_len h Ty.ag30
  rw [Ty.cz30] at hl
  have ha := tyV_arr h Ty.ae30
  obtain ⟨a, ea⟩ := int_cell (ha 0 (by omega))
  obtain ⟨b, eb⟩ := int_cell (ha 1 (by omega))
  rw [Ty.cz3] at ea eb
  match vs, hl with
  | [x, y], _ =>
    simp at ea eb
    subst ea eb
    exact ⟨(a, b), rfl⟩
theorem pair_of {g : Nat} {x : V} (h : argTy Tryd.prog (g + 2) 30 x) : ∃ p : Int × Int, x = .agg (cycV p) := by
  obtain ⟨vs, e, k⟩ := argTy_agg h Ty.ag30
  obtain ⟨p, hp⟩ := pair_cell k
  exact ⟨p, by rw [e, hp]⟩
theorem prs_of {g : Nat} {x : V} (h : argTy Tryd.prog (g + 3) 26 x) : ∃ l : List (Int × Int), x = prs l ∧ l.length ≤ 8796093021952 := by
  obtain ⟨els, h1, h2, h3⟩ := tyV_slw (argTy_one h Ty.ag26) Ty.se26
  obtain ⟨l, hl⟩ := rows_map (R := cycV) (els := els) (fun row hr => pair_cell (h3 row hr))
  subst hl
  rw [Ty.cz30] at h1
  rw [Ty.by30] at h2
  exact ⟨l, by simpa [prs] using h1, by simp at h2; omega⟩
theorem kd_cell {g : Nat} {vs : List V} (h : tyV Tryd.prog (g + 2) 53 vs) : ∃ p : Kd, vs = Kd.row p := by
  have hl := tyV_len h Ty.ag53
  rw [Ty.cz53] at hl
  obtain ⟨n0, e0⟩ := int_cell (tyV_fld h Ty.fd53_0)
  obtain ⟨n1, e1⟩ := int_cell (tyV_fld h Ty.fd53_1)
  obtain ⟨n2, e2⟩ := int_cell (tyV_fld h Ty.fd53_2)
  rw [Ty.cz3] at e0 e1 e2
  match vs, hl with
  | [x0, x1, x2], _ =>
    simp at e0 e1 e2
    subst e0 e1 e2
    exact ⟨⟨n0, n1, n2⟩, rfl⟩
theorem pt_cell {g : Nat} {vs : List V} (h : tyV Tryd.prog (g + 2) 51 vs) : ∃ p : Pt, vs = Pt.row p := by
  have hl := tyV_len h Ty.ag51
  rw [Ty.cz51] at hl
  obtain ⟨n0, e0⟩ := int_cell (tyV_fld h Ty.fd51_0)
  obtain ⟨n1, e1⟩ := int_cell (tyV_fld h Ty.fd51_1)
  obtain ⟨n2, e2⟩ := int_cell (tyV_fld h Ty.fd51_2)
  obtain ⟨n3, e3⟩ := bool_cell (tyV_fld h Ty.fd51_3)
  rw [Ty.cz3] at e0 e1 e2
  rw [Ty.cz4] at e3
  match vs, hl with
  | [x0, x1, x2, x3], _ =>
    simp at e0 e1 e2 e3
    subst e0 e1 e2 e3
    exact ⟨⟨n0, n1, n2, n3⟩, rfl⟩
theorem od_cell {g : Nat} {vs : List V} (h : tyV Tryd.prog (g + 2) 121 vs) : ∃ p : Od, vs = Od.row p := by
  have hl := tyV_len h Ty.ag121
  rw [Ty.cz121] at hl
  obtain ⟨n0, e0⟩ := int_cell (tyV_fld h Ty.fd121_0)
  obtain ⟨n1, e1⟩ := int_cell (tyV_fld h Ty.fd121_1)
  rw [Ty.cz3] at e0 e1
  match vs, hl with
  | [x0, x1], _ =>
    simp at e0 e1
    subst e0 e1
    exact ⟨⟨n0, n1⟩, rfl⟩
theorem wk_cell {g : Nat} {vs : List V} (h : tyV Tryd.prog (g + 2) 47 vs) : ∃ p : Wk, vs = Wk.row p := by
  have hl := tyV_len h Ty.ag47
  rw [Ty.cz47] at hl
  obtain ⟨n0, e0⟩ := int_cell (tyV_fld h Ty.fd47_0)
  obtain ⟨n1, e1⟩ := int_cell (tyV_fld h Ty.fd47_1)
  obtain ⟨n2, e2⟩ := int_cell (tyV_fld h Ty.fd47_2)
  obtain ⟨n3, e3⟩ := int_cell (tyV_fld h Ty.fd47_3)
  rw [Ty.cz3] at e0 e1 e2 e3
  match vs, hl with
  | [x0, x1, x2, x3], _ =>
    simp at e0 e1 e2 e3
    subst e0 e1 e2 e3
    exact ⟨⟨n0, n1, n2, n3⟩, rfl⟩
theorem kds_cell {g : Nat} {vs : List V} (h : tyV Tryd.prog (g + 3) 34 vs) : ∃ l : List Kd, vs = [.sl 3 (l.map Kd.row)] ∧ l.length ≤ 10000000000000 := by
  obtain ⟨els, h1, h2, h3⟩ := tyV_slw h Ty.se34
  obtain ⟨l, hl⟩ := rows_map (R := Kd.row) (els := els) (fun row hr => kd_cell (h3 row hr))
  subst hl
  rw [Ty.cz53] at h1
  rw [Ty.by53] at h2
  exact ⟨l, h1, by simp at h2; omega⟩
theorem pts_cell {g : Nat} {vs : List V} (h : tyV Tryd.prog (g + 3) 35 vs) : ∃ l : List Pt, vs = [.sl 4 (l.map Pt.row)] ∧ l.length ≤ 10000000000000 := by
  obtain ⟨els, h1, h2, h3⟩ := tyV_slw h Ty.se35
  obtain ⟨l, hl⟩ := rows_map (R := Pt.row) (els := els) (fun row hr => pt_cell (h3 row hr))
  subst hl
  rw [Ty.cz51] at h1
  rw [Ty.by51] at h2
  exact ⟨l, h1, by simp at h2; omega⟩
theorem ods_cell {g : Nat} {vs : List V} (h : tyV Tryd.prog (g + 3) 36 vs) : ∃ l : List Od, vs = [.sl 2 (l.map Od.row)] ∧ l.length ≤ 10000000000000 := by
  obtain ⟨els, h1, h2, h3⟩ := tyV_slw h Ty.se36
  obtain ⟨l, hl⟩ := rows_map (R := Od.row) (els := els) (fun row hr => od_cell (h3 row hr))
  subst hl
  rw [Ty.cz121] at h1
  rw [Ty.by121] at h2
  exact ⟨l, h1, by simp at h2; omega⟩
theorem wks_cell {g : Nat} {vs : List V} (h : tyV Tryd.prog (g + 3) 39 vs) : ∃ l : List Wk, vs = [.sl 4 (l.map Wk.row)] ∧ l.length ≤ 4398046510976 := by
  obtain ⟨els, h1, h2, h3⟩ := tyV_slw h Ty.se39
  obtain ⟨l, hl⟩ := rows_map (R := Wk.row) (els := els) (fun row hr => wk_cell (h3 row hr))
  subst hl
  rw [Ty.cz47] at h1
  rw [Ty.by47] at h2
  exact ⟨l, h1, by simp at h2; omega⟩
theorem wks_of {g : Nat} {x : V} (h : argTy Tryd.prog (g + 3) 39 x) : ∃ l : List Wk, x = .sl 4 (l.map Wk.row) ∧ l.length ≤ 4398046510976 := by
  obtain ⟨l, h1, h2⟩ := wks_cell (argTy_one h Ty.ag39)
  exact ⟨l, by simpa using h1, h2⟩
theorem wk_of {g : Nat} {x : V} (h : argTy Tryd.prog (g + 2) 47 x) : ∃ w : Wk, x = .agg w.row := by
  obtain ⟨vs, e, k⟩ := argTy_agg h Ty.ag47
  obtain ⟨p, hp⟩ := wk_cell k
  exact ⟨p, by rw [e, hp]⟩
theorem reg_of {g : Nat} {x : V} (h : argTy Tryd.prog (g + 4) 38 x) : ∃ r : Reg, x = .agg r.row ∧ r.kinds.length ≤ 10000000000000 ∧ r.parts.length ≤ 10000000000000 ∧ r.orders.length ≤ 10000000000000 := by
  obtain ⟨vs, e, k⟩ := argTy_agg h Ty.ag38
  subst e
  have hl := tyV_len k Ty.ag38
  rw [Ty.cz38] at hl
  obtain ⟨a, e0, b0⟩ := kds_cell (tyV_fld k Ty.fd38_0)
  obtain ⟨b, e1, b1⟩ := pts_cell (tyV_fld k Ty.fd38_1)
  obtain ⟨m, e2⟩ := int_cell (tyV_fld k Ty.fd38_2)
  obtain ⟨o, e3, b3⟩ := ods_cell (tyV_fld k Ty.fd38_3)
  rw [Ty.cz34] at e0
  rw [Ty.cz35] at e1
  rw [Ty.cz3] at e2
  rw [Ty.cz36] at e3
  match vs, hl with
  | [x0, x1, x2, x3], _ =>
    simp at e0 e1 e2 e3
    subst e0 e1 e2 e3
    exact ⟨⟨a, b, m, o⟩, rfl, b0, b1, b3⟩
structure I3 where
  a : Int
  b : Int
  c : Int
theorem look_of {g : Nat} {x : V} (h : argTy Tryd.prog (g + 2) 41 x) : ∃ q : I3, x = .agg [.int .i64 q.a, .int .i64 q.b, .int .i64 q.c] := by
  obtain ⟨vs, e, k⟩ := argTy_agg h Ty.ag41
  subst e
  have hl := tyV_len k Ty.ag41
  rw [Ty.cz41] at hl
  obtain ⟨n0, e0⟩ := int_cell (tyV_fld k Ty.fd41_0)
  obtain ⟨n1, e1⟩ := int_cell (tyV_fld k Ty.fd41_1)
  obtain ⟨n2, e2⟩ := int_cell (tyV_fld k Ty.fd41_2)
  rw [Ty.cz3] at e0 e1 e2
  match vs, hl with
  | [x0, x1, x2], _ =>
    simp at e0 e1 e2
    subst e0 e1 e2
    exact ⟨⟨n0, n1, n2⟩, rfl⟩
theorem more_of {g : Nat} {x : V} (h : argTy Tryd.prog (g + 2) 24 x) : ∃ q : Int × Int, x = .agg [.int .i64 q.1, .int .i64 q.2] := by
  obtain ⟨vs, e, k⟩ := argTy_agg h Ty.ag24
  subst e
  have hl := tyV_len k Ty.ag24
  rw [Ty.cz24] at hl
  obtain ⟨n0, e0⟩ := int_cell (tyV_fld k Ty.fd24_0)
  obtain ⟨n1, e1⟩ := int_cell (tyV_fld k Ty.fd24_1)
  rw [Ty.cz3] at e0 e1
  match vs, hl with
  | [x0, x1], _ =>
    simp at e0 e1
    subst e0 e1
    exact ⟨(n0, n1), rfl⟩
structure OtD where
  l : List Int
  a : Int
  b : Int
theorem other_of {g : Nat} {x : V} (h : argTy Tryd.prog (g + 3) 76 x) : ∃ q : OtD, x = .agg [ints q.l, .int .i64 q.a, .int .i64 q.b] ∧ q.l.length ≤ 17592186043904 := by
  obtain ⟨vs, e, k⟩ := argTy_agg h Ty.ag76
  subst e
  have hl := tyV_len k Ty.ag76
  rw [Ty.cz76] at hl
  obtain ⟨l, e0, b0⟩ := ints_cell (tyV_fld k Ty.fd76_0)
  obtain ⟨n1, e1⟩ := int_cell (tyV_fld k Ty.fd76_1)
  obtain ⟨n2, e2⟩ := int_cell (tyV_fld k Ty.fd76_2)
  rw [Ty.cz22] at e0
  rw [Ty.cz3] at e1 e2
  match vs, hl with
  | [x0, x1, x2], _ =>
    simp at e0 e1 e2
    subst e0 e1 e2
    exact ⟨⟨l, n1, n2⟩, rfl, b0⟩
theorem rl_fine {r : Reg} {l : List Wk} (h1 : r.kinds.length ≤ 10000000000000) (h2 : r.parts.length ≤ 10000000000000) (h3 : r.orders.length ≤ 10000000000000) (h4 : l.length ≤ 4398046510976) : RL.Fine ⟨r, l⟩ := by
  refine ⟨?_, ?_, ?_, ?_⟩ <;> simp only <;> omega
abbrev laidL : List (String × DataW Unit) := [("swashplate/parts.store", .agg [.lit (.int .i64 (-1)), .lit (.int .i64 (-1))]), ("swashplate/parts.scrap", .agg [.lit (.int .i64 (-2)), .lit (.int .i64 (-2))])]
theorem laid_gok {W : World} (h : laidMetH Tryd.prog laidL W) : GOK W (fun _ => False) := by
  rw [MakeChecks.laidMetH_plain _ _ _ (by kernel_rfl)] at h
  obtain ⟨ps, ⟨g, t, cs, fuel, p, q, hg, ht, hv, hd, ⟨g', t', cs', fuel', p', q', hg', ht', hv', hd', _⟩, _⟩, _⟩ := h
  obtain rfl := Option.some.inj ((show Tryd.prog.globalNamed "swashplate/parts.store" = some 1 by kernel_rfl).symm.trans hg)
  obtain rfl := Option.some.inj ((show Tryd.prog.globalNamed "swashplate/parts.scrap" = some 0 by kernel_rfl).symm.trans hg')
  obtain rfl := Option.some.inj ((show (Tryd.prog.globals[1]?).map (·.type) = some 94 by kernel_rfl).symm.trans ht)
  obtain rfl := Option.some.inj ((show (Tryd.prog.globals[0]?).map (·.type) = some 94 by kernel_rfl).symm.trans ht')
  have h1 := pair_laid hg hv (by kernel_rfl) (show Tryd.prog.underlying 3 = some (.int .i64) by kernel_rfl) Ty.cz3 hd
  have h0 := pair_laid hg' hv' (by kernel_rfl) (show Tryd.prog.underlying 3 = some (.int .i64) by kernel_rfl) Ty.cz3 hd'
  intro k v hk
  have hk' : (if k = 0 then some (V.ip 2 [[.int .i64 (-2), .int .i64 (-2)]] 0 0) else if k = 1 then some (.ip 2 [[.int .i64 (-1), .int .i64 (-1)]] 0 0) else none) = some v := hk
  split at hk'
  · rename_i e; subst e; cases hk'; exact h0
  · split at hk'
    · rename_i e; subst e; cases hk'; exact h1
    · cases hk'
end Go.Sx
end
