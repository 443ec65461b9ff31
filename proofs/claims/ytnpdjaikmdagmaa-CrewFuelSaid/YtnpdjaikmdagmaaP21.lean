/- A part of a proof; no conditions. -/
import Derived.Test.YtnpdjaikmdagmaaP20
import Derived.Test.YtnpdjaikmdagmaaP19
set_option linter.unusedSimpArgs false
set_option linter.unusedVariables false
set_option linter.unusedSectionVars false
section
/- Crew: what the arguments of the laws read as. No conditions. -/
set_option linter.unusedSimpArgs false
set_option linter.unusedSectionVars false
set_option maxRecDepth 100000
namespace Go.Sx
open Go.Proofs Go.RowKit

/-- A number of the machine. -/
def I64 (n : Int) : Prop := -9223372036854775808 ≤ n ∧ n ≤ 9223372036854775807
theorem tyV_bool {P : Program} {g : Nat} {t : TypeId} {vs : List V} (h : tyV P (g + 1) t vs) (hk : P.underlying t = some .bool) : ∃ b, vs = [.bool b] := by
  simp only [tyV, hk] at h; exact h
theorem int_cellb {g : Nat} {vs : List V} (h : tyV Try.prog (g + 1) 3 vs) : ∃ n, vs = [.int .i64 n] ∧ I64 n := by
  obtain ⟨n, h1, h2⟩ := tyV_int h Ty.ik3
  refine ⟨n, h1, ?_⟩
  have h3 : IntKind.i64.min ≤ n ∧ n ≤ IntKind.i64.max := by simpa only [Lit.wf, Bool.and_eq_true, decide_eq_true_eq] using h2
  rwa [show IntKind.i64.min = -9223372036854775808 by decide, show IntKind.i64.max = 9223372036854775807 by decide] at h3
theorem int_cell {g : Nat} {vs : List V} (h : tyV Try.prog (g + 1) 3 vs) : ∃ n, vs = [.int .i64 n] := by
  obtain ⟨n, h1, _⟩ := int_cellb h; exact ⟨n, h1⟩
theorem bool_cell {g : Nat} {vs : List V} (h : tyV Try.prog (g + 1) 4 vs) : ∃ n, vs = [.bool n] := tyV_bool h (by kernel_rfl)
theorem int_of {g : Nat} {x : V} (h : argTy Try.prog (g + 1) 3 x) : ∃ n, x = .int .i64 n := by
  obtain ⟨n, h1⟩ := int_cell (argTy_one h Ty.ag3)
  exact ⟨n, by simpa using h1⟩
theorem ints_cell {g : Nat} {vs : List V} (h : tyV Try.prog (g + 2) 24 vs) : ∃ l : List Int, vs = [ints l] ∧ l.length ≤ 17592186043904 := by
  obtain ⟨els, h1, h2, h3⟩ := tyV_slw h Ty.se24
  obtain ⟨l, hl⟩ := rows_map (R := ri) (els := els) (fun row hr => int_cell (h3 row hr))
  subst hl
  rw [Ty.cz3] at h1
  rw [Ty.by3] at h2
  exact ⟨l, h1, by simp at h2; omega⟩
theorem gu_cell {g : Nat} {vs : List V} (h : tyV Try.prog (g + 2) 88 vs) : ∃ p : Gu, vs = Gu.row p := by
  have hl := tyV_len h Ty.ag88
  rw [Ty.cz88] at hl
  obtain ⟨n0, e0⟩ := int_cell (tyV_fld h Ty.fd88_0)
  obtain ⟨n1, e1⟩ := bool_cell (tyV_fld h Ty.fd88_1)
  obtain ⟨n2, e2⟩ := int_cell (tyV_fld h Ty.fd88_2)
  obtain ⟨n3, e3⟩ := bool_cell (tyV_fld h Ty.fd88_3)
  rw [Ty.cz3] at e0 e2
  rw [Ty.cz4] at e1 e3
  match vs, hl with
  | [x0, x1, x2, x3], _ =>
    simp at e0 e1 e2 e3
    subst e0 e1 e2 e3
    exact ⟨⟨n0, n1, n2, n3⟩, rfl⟩
theorem gus_of {g : Nat} {x : V} (h : argTy Try.prog (g + 3) 22 x) : ∃ l : List Gu, x = .sl 4 (l.map Gu.row) := by
  obtain ⟨els, h1, h2, h3⟩ := tyV_slw (argTy_one h Ty.ag22) Ty.se22
  obtain ⟨l, hl⟩ := rows_map (R := Gu.row) (els := els) (fun row hr => gu_cell (h3 row hr))
  subst hl
  rw [Ty.cz88] at h1
  exact ⟨l, by simpa using h1⟩
theorem pn_cell {g : Nat} {vs : List V} (h : tyV Try.prog (g + 2) 69 vs) : ∃ p : Pn, vs = Pn.row p := by
  have hl := tyV_len h Ty.ag69
  rw [Ty.cz69] at hl
  obtain ⟨n0, e0⟩ := int_cell (tyV_fld h Ty.fd69_0)
  obtain ⟨n1, e1⟩ := int_cell (tyV_fld h Ty.fd69_1)
  obtain ⟨n2, e2⟩ := int_cell (tyV_fld h Ty.fd69_2)
  rw [Ty.cz3] at e0 e1 e2
  match vs, hl with
  | [x0, x1, x2], _ =>
    simp at e0 e1 e2
    subst e0 e1 e2
    exact ⟨⟨n0, n1, n2⟩, rfl⟩
abbrev DuI : Type := { d : Du // I64 d.a ∧ I64 d.b }
theorem du_cell {g : Nat} {vs : List V} (h : tyV Try.prog (g + 2) 66 vs) : ∃ p : DuI, vs = Du.row p.1 := by
  have hl := tyV_len h Ty.ag66
  rw [Ty.cz66] at hl
  obtain ⟨n0, e0⟩ := int_cell (tyV_fld h Ty.fd66_0)
  obtain ⟨n1, e1, b1⟩ := int_cellb (tyV_fld h Ty.fd66_1)
  obtain ⟨n2, e2, b2⟩ := int_cellb (tyV_fld h Ty.fd66_2)
  rw [Ty.cz3] at e0 e1 e2
  match vs, hl with
  | [x0, x1, x2], _ =>
    simp at e0 e1 e2
    subst e0 e1 e2
    exact ⟨⟨⟨n0, n1, n2⟩, b1, b2⟩, rfl⟩
theorem dus_of {g : Nat} {x : V} (h : argTy Try.prog (g + 3) 34 x) : ∃ l : List Du, x = .sl 3 (l.map Du.row) ∧ ∀ d ∈ l, I64 d.a ∧ I64 d.b := by
  obtain ⟨els, h1, h2, h3⟩ := tyV_slw (argTy_one h Ty.ag34) Ty.se34
  obtain ⟨l, hl⟩ := rows_map (R := fun d : DuI => Du.row d.1) (els := els) (fun row hr => du_cell (h3 row hr))
  subst hl
  rw [Ty.cz66] at h1
  refine ⟨l.map (·.1), ?_, fun d hd => ?_⟩
  · rw [List.map_map]; simpa using h1
  · obtain ⟨e, _, rfl⟩ := List.mem_map.1 hd
    exact e.2
theorem ro_of {g : Nat} {x : V} (h : argTy Try.prog (g + 4) 33 x) : ∃ r : Ro, x = .agg r.row := by
  obtain ⟨vs, e, k⟩ := argTy_agg h Ty.ag33
  subst e
  have hl := tyV_len k Ty.ag33
  rw [Ty.cz33] at hl
  obtain ⟨els, e0, _, h3⟩ := tyV_slw (tyV_fld k Ty.fd33_0) Ty.se31
  obtain ⟨l, hl2⟩ := rows_map (R := Pn.row) (els := els) (fun row hr => pn_cell (h3 row hr))
  subst hl2
  obtain ⟨n1, e1⟩ := int_cell (tyV_fld k Ty.fd33_1)
  obtain ⟨n2, e2⟩ := int_cell (tyV_fld k Ty.fd33_2)
  obtain ⟨n3, e3⟩ := int_cell (tyV_fld k Ty.fd33_3)
  obtain ⟨n4, e4⟩ := int_cell (tyV_fld k Ty.fd33_4)
  obtain ⟨n5, e5⟩ := int_cell (tyV_fld k Ty.fd33_5)
  rw [Ty.cz3] at e1 e2 e3 e4 e5
  rw [Ty.cz31, Ty.cz69] at e0
  match vs, hl with
  | [x0, x1, x2, x3, x4, x5], _ =>
    simp at e0 e1 e2 e3 e4 e5
    subst e0 e1 e2 e3 e4 e5
    exact ⟨⟨l, n1, n2, n3, n4, n5⟩, rfl⟩
theorem se_cell {g : Nat} {vs : List V} (h : tyV Try.prog (g + 2) 115 vs) : ∃ p : Se, vs = Se.row p := by
  have hl := tyV_len h Ty.ag115
  rw [Ty.cz115] at hl
  obtain ⟨n0, e0⟩ := int_cell (tyV_fld h Ty.fd115_0)
  obtain ⟨n1, e1⟩ := bool_cell (tyV_fld h Ty.fd115_1)
  rw [Ty.cz3] at e0
  rw [Ty.cz4] at e1
  match vs, hl with
  | [x0, x1], _ =>
    simp at e0 e1
    subst e0 e1
    exact ⟨⟨n0, n1⟩, rfl⟩
theorem ca_of {g : Nat} {x : V} (h : argTy Try.prog (g + 4) 49 x) : ∃ r : Ca, x = .agg r.row := by
  obtain ⟨vs, e, k⟩ := argTy_agg h Ty.ag49
  subst e
  have hl := tyV_len k Ty.ag49
  rw [Ty.cz49] at hl
  obtain ⟨els, e2, _, h3⟩ := tyV_slw (tyV_fld k Ty.fd49_2) Ty.se47
  obtain ⟨l, hl2⟩ := rows_map (R := Se.row) (els := els) (fun row hr => se_cell (h3 row hr))
  subst hl2
  obtain ⟨n0, e0⟩ := int_cell (tyV_fld k Ty.fd49_0)
  obtain ⟨n1, e1⟩ := int_cell (tyV_fld k Ty.fd49_1)
  obtain ⟨n3, e3⟩ := int_cell (tyV_fld k Ty.fd49_3)
  obtain ⟨n4, e4⟩ := int_cell (tyV_fld k Ty.fd49_4)
  obtain ⟨n5, e5⟩ := int_cell (tyV_fld k Ty.fd49_5)
  rw [Ty.cz3] at e0 e1 e3 e4 e5
  rw [Ty.cz47, Ty.cz115] at e2
  match vs, hl with
  | [x0, x1, x2, x3, x4, x5], _ =>
    simp at e0 e1 e2 e3 e4 e5
    subst e0 e1 e2 e3 e4 e5
    exact ⟨⟨n0, n1, l, n3, n4, n5⟩, rfl⟩
theorem cl_cell {g : Nat} {vs : List V} (h : tyV Try.prog (g + 2) 36 vs) : ∃ p : Cl, vs = Cl.row p ∧ I64 p.a ∧ I64 p.b := by
  have hl := tyV_len h Ty.ag36
  rw [Ty.cz36] at hl
  obtain ⟨n0, e0, b0⟩ := int_cellb (tyV_fld h Ty.fd36_0)
  obtain ⟨n1, e1, b1⟩ := int_cellb (tyV_fld h Ty.fd36_1)
  obtain ⟨n2, e2⟩ := int_cell (tyV_fld h Ty.fd36_2)
  obtain ⟨n3, e3⟩ := bool_cell (tyV_fld h Ty.fd36_3)
  rw [Ty.cz3] at e0 e1 e2
  rw [Ty.cz4] at e3
  match vs, hl with
  | [x0, x1, x2, x3], _ =>
    simp at e0 e1 e2 e3
    subst e0 e1 e2 e3
    exact ⟨⟨n0, n1, n2, n3⟩, rfl, b0, b1⟩
theorem cl_of {g : Nat} {x : V} (h : argTy Try.prog (g + 2) 36 x) : ∃ c : Cl, x = .agg c.row ∧ I64 c.a ∧ I64 c.b := by
  obtain ⟨vs, e, k⟩ := argTy_agg h Ty.ag36
  obtain ⟨c, hc, b⟩ := cl_cell k
  exact ⟨c, by rw [e, hc], b⟩
structure Nd where
  c : Cl
  n : Int
  deriving Inhabited
def Nd.row (d : Nd) : List V := [.int .i64 d.c.a, .int .i64 d.c.b, .int .i64 d.c.craft, .bool d.c.water, .int .i64 d.n]
theorem nd_cell {g : Nat} {vs : List V} (h : tyV Try.prog (g + 3) 38 vs) : ∃ p : Nd, vs = Nd.row p ∧ I64 p.c.a ∧ I64 p.c.b := by
  have hl := tyV_len h Ty.ag38
  rw [Ty.cz38] at hl
  obtain ⟨c, e0, b⟩ := cl_cell (tyV_fld h Ty.fd38_0)
  obtain ⟨n1, e1⟩ := int_cell (tyV_fld h Ty.fd38_1)
  rw [Ty.cz3] at e1
  rw [Ty.cz36] at e0
  match vs, hl with
  | [x0, x1, x2, x3, x4], _ =>
    simp [Cl.row] at e0 e1
    obtain ⟨rfl, rfl, rfl, rfl⟩ := e0
    subst e1
    exact ⟨⟨c, n1⟩, rfl, b⟩
structure Ez where
  d : Nd
  lng : Int
  rst : Int
  tot : Int
  rcn : Int
  deriving Inhabited
def Ez.row (e : Ez) : List V := [.int .i64 e.d.c.a, .int .i64 e.d.c.b, .int .i64 e.d.c.craft, .bool e.d.c.water, .int .i64 e.d.n, .int .i64 e.lng, .int .i64 e.rst, .int .i64 e.tot, .int .i64 e.rcn]
theorem ez_of {g : Nat} {x : V} (h : argTy Try.prog (g + 4) 40 x) : ∃ e : Ez, x = .agg e.row ∧ I64 e.d.c.a ∧ I64 e.d.c.b := by
  obtain ⟨vs, e, k⟩ := argTy_agg h Ty.ag40
  subst e
  have hl := tyV_len k Ty.ag40
  rw [Ty.cz40] at hl
  obtain ⟨c, e0, b⟩ := nd_cell (tyV_fld k Ty.fd40_0)
  obtain ⟨n1, e1⟩ := int_cell (tyV_fld k Ty.fd40_1)
  obtain ⟨n2, e2⟩ := int_cell (tyV_fld k Ty.fd40_2)
  obtain ⟨n3, e3⟩ := int_cell (tyV_fld k Ty.fd40_3)
  obtain ⟨n4, e4⟩ := int_cell (tyV_fld k Ty.fd40_4)
  rw [Ty.cz3] at e1 e2 e3 e4
  rw [Ty.cz38] at e0
  match vs, hl with
  | [x0, x1, x2, x3, x4, x5, x6, x7, x8], _ =>
    simp [Nd.row] at e0 e1 e2 e3 e4
    obtain ⟨rfl, rfl, rfl, rfl, rfl⟩ := e0
    subst e1 e2 e3 e4
    exact ⟨⟨c, n1, n2, n3, n4⟩, rfl, b⟩
theorem sp_cell {g : Nat} {vs : List V} (h : tyV Try.prog (g + 2) 51 vs) : ∃ p : Sp, vs = Sp.row p := by
  have hl := tyV_len h Ty.ag51
  rw [Ty.cz51] at hl
  obtain ⟨n0, e0⟩ := int_cell (tyV_fld h Ty.fd51_0)
  obtain ⟨n1, e1⟩ := int_cell (tyV_fld h Ty.fd51_1)
  rw [Ty.cz3] at e0 e1
  match vs, hl with
  | [x0, x1], _ =>
    simp at e0 e1
    subst e0 e1
    exact ⟨⟨n0, n1⟩, rfl⟩
structure Pl where
  f : Sp
  s : List Int
  deriving Inhabited
def Pl.row (p : Pl) : List V := [.int .i64 p.f.lo, .int .i64 p.f.hi, .sl 1 (p.s.map ri)]
theorem Pl.row_inj (a b : Pl) (h : a.row = b.row) : a = b := by
  obtain ⟨⟨a1, a2⟩, a3⟩ := a; obtain ⟨⟨b1, b2⟩, b3⟩ := b
  simp only [Pl.row, List.cons.injEq, V.sl.injEq, V.int.injEq, true_and, and_true] at h
  rw [h.1, h.2.1, map_ri_inj h.2.2]
theorem pl_cell {g : Nat} {vs : List V} (h : tyV Try.prog (g + 3) 53 vs) : ∃ p : Pl, vs = Pl.row p := by
  have hl := tyV_len h Ty.ag53
  rw [Ty.cz53] at hl
  obtain ⟨f, e0⟩ := sp_cell (tyV_fld h Ty.fd53_0)
  obtain ⟨s, e1, _⟩ := ints_cell (tyV_fld h Ty.fd53_1)
  rw [Ty.cz51] at e0
  rw [Ty.cz24] at e1
  match vs, hl with
  | [x0, x1, x2], _ =>
    simp [Sp.row] at e0 e1
    obtain ⟨rfl, rfl⟩ := e0
    subst e1
    exact ⟨⟨f, s⟩, rfl⟩
theorem pl_of {g : Nat} {x : V} (h : argTy Try.prog (g + 3) 53 x) : ∃ c : Pl, x = .agg c.row := by
  obtain ⟨vs, e, k⟩ := argTy_agg h Ty.ag53
  obtain ⟨c, hc⟩ := pl_cell k
  exact ⟨c, by rw [e, hc]⟩
structure So where
  p : Pl
  x : Int
  y : Int
  deriving Inhabited
def So.row (o : So) : List V := [.int .i64 o.p.f.lo, .int .i64 o.p.f.hi, .sl 1 (o.p.s.map ri), .int .i64 o.x, .int .i64 o.y]
theorem So.row_inj (a b : So) (h : a.row = b.row) : a = b := by
  obtain ⟨⟨⟨a1, a2⟩, a3⟩, a4, a5⟩ := a; obtain ⟨⟨⟨b1, b2⟩, b3⟩, b4, b5⟩ := b
  simp only [So.row, List.cons.injEq, V.sl.injEq, V.int.injEq, true_and, and_true] at h
  rw [h.1, h.2.1, map_ri_inj h.2.2.1, h.2.2.2.1, h.2.2.2.2]
theorem so_of {g : Nat} {x : V} (h : argTy Try.prog (g + 4) 72 x) : ∃ c : So, x = .agg c.row ∧ I64 c.x ∧ I64 c.y := by
  obtain ⟨vs, e, k⟩ := argTy_agg h Ty.ag72
  subst e
  have hl := tyV_len k Ty.ag72
  rw [Ty.cz72] at hl
  obtain ⟨p, e0⟩ := pl_cell (tyV_fld k Ty.fd72_0)
  have h67 := tyV_fld k Ty.fd72_1
  have ha := tyV_arr h67 Ty.ae67
  obtain ⟨a, ea, ba⟩ := int_cellb (ha 0 (by omega))
  obtain ⟨b, eb, bb⟩ := int_cellb (ha 1 (by omega))
  rw [Ty.cz3, Ty.cz67] at ea eb
  rw [Ty.cz53] at e0
  match vs, hl with
  | [x0, x1, x2, x3, x4], _ =>
    simp [Pl.row] at e0 ea eb
    obtain ⟨rfl, rfl, rfl⟩ := e0
    subst ea eb
    exact ⟨⟨p, a, b⟩, rfl, ba, bb⟩
end Go.Sx
end
section
/- Crew: the law of the center with any fuel. No conditions. -/
set_option linter.unusedSimpArgs false
set_option linter.unusedSectionVars false
set_option maxRecDepth 100000
set_option maxHeartbeats 2000000
namespace Go.Sx
open Go.Proofs
attribute [local irreducible] HLe

@[simp] def fuE (d : Ca × List Gu × So) : List V := [.agg d.1.row, .sl 4 (d.2.1.map Gu.row), .agg d.2.2.row]
structure FuP (d : Ca × List Gu × So) : Prop where
  x : I64 d.2.2.x
  y : I64 d.2.2.y
noncomputable abbrev trueFueS : PSpec := mkP fuE FuP fun _ => .bool true
theorem tmod_bd (x : Int) {w : Int} (hw : 0 < w) : -w < x.tmod w ∧ x.tmod w < w := by
  rcases Int.le_total 0 x with h | h
  · rw [Int.tmod_eq_emod_of_nonneg h]
    have := Int.emod_nonneg x (Int.ne_of_gt hw)
    have := Int.emod_lt_of_pos x hw
    omega
  · obtain ⟨k, rfl⟩ : ∃ k, x = -k := ⟨-x, by omega⟩
    rw [Int.neg_tmod, Int.tmod_eq_emod_of_nonneg (by omega)]
    have := Int.emod_nonneg k (Int.ne_of_gt hw)
    have := Int.emod_lt_of_pos k hw
    omega
theorem tmod_bd2 (x : Int) {w : Int} (hw : 0 < w) (hx : 0 ≤ x) : 0 ≤ x.tmod w ∧ x.tmod w < w := by
  rw [Int.tmod_eq_emod_of_nonneg hx]
  exact ⟨Int.emod_nonneg x (Int.ne_of_gt hw), Int.emod_lt_of_pos x hw⟩
theorem sea_fuel {c : Ca} {l : List Gu} {s : List Int} {f g : Sp} (h : seaE c l s f = 0) (h1 : f.lo ≤ g.lo) (h2 : g.lo ≤ g.hi) (h3 : g.hi ≤ f.hi) : seaE c l s g = 0 := by
  have hF := pfit_of h
  have hff := hF.f.ff
  simp only at hff
  have hl : lodE c l f = 0 := by
    unfold seaE at h
    split at h
    · assumption
    · rename_i h1; exact absurd h h1
  have hg : lodE c l g = 0 := by
    unfold lodE at hl ⊢
    split at hl
    · rename_i x1
      rw [if_pos x1]
      split at hl
      · rename_i x2
        rw [if_pos x2]
        unfold spnE
        rw [if_pos (by omega)]
      · rename_i x2; exact absurd hl x2
    · omega
  unfold seaE
  rw [if_pos hg, if_pos hF.s]
theorem cen_bd {c : Ca} {l : List Gu} {s : List Int} {f : Sp} (h : LFit c l f) : Far0 (cenL c l f s).lo ∧ Far0 (cenL c l f s).hi := by
  have w1 := wgt_bd h (x := f.lo) (by have := h.ff; omega)
  have w2 := wgt_bd h (x := f.hi) (by have := h.ff; omega)
  have m1 := mom_bd h s (x := f.lo) (by have := h.ff; omega)
  have m2 := mom_bd h s (x := f.hi) (by have := h.ff; omega)
  have q1 := ediv_bd w1.1 (m := mom c l s f.lo) ⟨by omega, by omega⟩
  have q2 := ediv_bd w2.1 (m := mom c l s f.hi) ⟨by omega, by omega⟩
  have q3 := ediv_bd w1.1 (m := -mom c l s f.lo) ⟨by omega, by omega⟩
  have q4 := ediv_bd w2.1 (m := -mom c l s f.hi) ⟨by omega, by omega⟩
  unfold cenL Far0 at *
  simp only
  omega
noncomputable abbrev E7 : Env := { P := Try.prog, fn := tbl [(19, .pure fcS), (27, .pure lodS), (9, .pure worksS), (20, .pure cpcS), (11, .pure glS), (28, .pure CenS), (23, .pure BalS), (29, .pure momS)], own := [47], key := 700, nt := 212, frz := [(6, [7, 50007, 8, 50008, 5, 50005, 9, 50009])] }
theorem b7 : PureBody E7 [(7, ([0, 2, 4, 5], [[0, 1, 2, 3, 4, 5, 6, 7, 8, 9, 10, 11]]))] Try.f7 trueFueS := by
  refine pb ?_
  rintro ⟨c, l, ⟨⟨f, s⟩, x, y⟩⟩ ⟨hx, hy⟩
  simp only at hx hy
  by_cases hfar : (12 < c.st.length ∨ 12 < l.length) ∨ 12 < s.length
  · have hz : (decide (12 < c.st.length) || decide (12 < l.length)) = true ∨ (decide (12 < c.st.length) || decide (12 < l.length)) = false ∧ 12 < s.length := by
      by_cases h1 : 12 < c.st.length
      · left; simp [h1]
      · by_cases h2 : 12 < l.length
        · left; simp [h2]
        · right; exact ⟨by simp [h1, h2], by omega⟩
    rcases hz with h | ⟨h, h'⟩
    · simp -dsimp [Try.f7, E7, Ca.row, So.row]
      repeat' (first | omega | (simp -dsimp [E7, ri, cellp, ints, Ca.row, So.row, fcE_dec, h]) | (refine Also.intro ?_ fun _ => ?_) | (refine Hold.intro fun _ => ?_) | (refine And.intro ?_ ?_))
    · have h2 : ((12 : Int) < s.length) = True := eq_true (by omega)
      simp -dsimp [Try.f7, E7, Ca.row, So.row]
      repeat' (first | omega | (simp -dsimp [E7, ri, cellp, ints, Ca.row, So.row, fcE_dec, h, h2]) | (refine Also.intro ?_ fun _ => ?_) | (refine Hold.intro fun _ => ?_) | (refine And.intro ?_ ?_))
  have h1 : (decide (12 < c.st.length) || decide (12 < l.length)) = false := by
    rw [decide_eq_false (by omega), decide_eq_false (by omega)]; rfl
  have h2 : ((12 : Int) < s.length) = False := eq_false (by omega)
  have hP : LoP (c, l, f) := ⟨by simp only; omega, by simp only; omega⟩
  have hQ : ∀ f, PcP (c, l, s, f) := fun f => ⟨by simp only; omega, by simp only; omega, by simp only; omega⟩
  have hc6 : c.st.length ≤ 1000000 := by omega
  have hl6 : l.length ≤ 1000000 := by omega
  have hs6 : s.length ≤ 12 := by omega
  clear hfar
  by_cases hle : lodE c l f = 0
  case neg =>
    have hle' : (lodE c l f = 0) = False := eq_false hle
    simp -dsimp [Try.f7, E7, Ca.row, So.row]
    repeat' (first | omega | (simp -dsimp [E7, ri, cellp, ints, Ca.row, So.row, fcE_dec, h1, h2, lodE3_dec, hP, hle']) | (refine Also.intro ?_ fun _ => ?_) | (refine Hold.intro fun _ => ?_) | (refine And.intro ?_ ?_))
  have hB : ∀ f, blV c l s f = .tup [.bool (decide (seaE c l s f = 0) && balB c l f s), .int .i64 (seaE c l s f)] := fun _ => rfl
  have hBf := hB f
  have hQf := hQ f
  by_cases hse : seaE c l s f = 0
  case neg =>
    have hse' : (seaE c l s f = 0) = False := eq_false hse
    obtain ⟨q, hq⟩ : ∃ q, cenO c l s f = q := ⟨_, rfl⟩
    rw [decide_eq_false hse] at hBf
    simp -dsimp [Try.f7, E7, FreeAt, Ca.row, So.row]
    repeat' (first | omega | (simp -dsimp [E7, ri, cellp, ints, FreeAt, Ca.row, So.row, Sp.row, fcE_dec, h1, h2, hP, hQf, hc6, hl6, hs6, caE_dec, glE_dec, lodE3_dec, nf2_sl, pcE_dec, hle, hse', hBf, hq]) | (refine Also.intro ?_ fun _ => ?_) | (refine Hold.intro fun _ => ?_) | (refine And.intro ?_ ?_))
  have hF := pfit_of hse
  have hff := hF.f.ff
  simp only at hff
  obtain ⟨hsl, hsq⟩ := seat_of hF.s
  simp only at hsl hsq
  obtain ⟨W, hW⟩ : ∃ W, f.hi - f.lo + 1 = W := ⟨_, rfl⟩
  have hWp : 0 < W := by omega
  have hW0 : (W = 0) = False := eq_false (by omega)
  have ww1 : IntKind.wrap .i64 (f.hi - f.lo) = f.hi - f.lo := wrap_id (by omega) (by omega)
  have ww2 : IntKind.wrap .i64 (f.hi - f.lo + 1) = W := by rw [hW]; exact wrap_id (by omega) (by omega)
  have t1 := tmod_bd x hWp
  have t2 := tmod_bd y hWp
  have ww3 : IntKind.wrap .i64 (x.tmod W + W) = x.tmod W + W := wrap_id (by omega) (by omega)
  have ww4 : IntKind.wrap .i64 (y.tmod W + W) = y.tmod W + W := wrap_id (by omega) (by omega)
  have t3 := tmod_bd2 (x.tmod W + W) hWp (by omega)
  have t4 := tmod_bd2 (y.tmod W + W) hWp (by omega)
  obtain ⟨A, hA⟩ : ∃ A, f.lo + (x.tmod W + W).tmod W = A := ⟨_, rfl⟩
  obtain ⟨B, hBq⟩ : ∃ B, f.lo + (y.tmod W + W).tmod W = B := ⟨_, rfl⟩
  have ww5 : IntKind.wrap .i64 (f.lo + (x.tmod W + W).tmod W) = A := by rw [hA]; exact wrap_id (by omega) (by omega)
  have ww6 : IntKind.wrap .i64 (f.lo + (y.tmod W + W).tmod W) = B := by rw [hBq]; exact wrap_id (by omega) (by omega)
  have hAb : f.lo ≤ A ∧ A ≤ f.hi := by omega
  have hBb : f.lo ≤ B ∧ B ≤ f.hi := by omega
  clear hA hBq t1 t2 t3 t4
  have hmt := hF.mt hAb
  have hg := wgt_bd hF.f (x := A) (by omega)
  have hm := mom_bd hF.f s (x := A) (by omega)
  simp only at hg hm
  have hq : cenO c l s f = cenL c l f s := if_pos hse
  obtain ⟨z1, z2⟩ := cen_bd (s := s) hF.f
  obtain ⟨y1, y2⟩ := fuel_center (s := s) hF.f hAb.1 hAb.2
  simp only at z1 z2 y1 y2
  generalize cenL c l f s = q at *
  have hlow := hF.f.cf.low
  have hhigh := hF.f.cf.high
  simp only at hlow hhigh
  have q1 := mul_bd (a := wgt c l A) (A := 300000) (by omega) (show -1000000000000 ≤ q.lo ∧ q.lo ≤ 1000000000000 from z1)
  have q2 := mul_bd (a := wgt c l A) (A := 300000) (by omega) (show -1000000000000 ≤ q.hi ∧ q.hi ≤ 1000000000000 from z2)
  have q3 := mul_bd (a := wgt c l A) (A := 300000) (by omega) hlow
  have q4 := mul_bd (a := wgt c l A) (A := 300000) (by omega) hhigh
  rw [Int.mul_comm _ q.lo] at q1
  rw [Int.mul_comm _ q.hi] at q2
  rw [Int.mul_comm _ c.low] at q3
  rw [Int.mul_comm _ c.high] at q4
  have v1 : IntKind.wrap .i64 (q.lo * wgt c l A) = q.lo * wgt c l A := wrap_id (by omega) (by omega)
  have v2 : IntKind.wrap .i64 (q.hi * wgt c l A) = q.hi * wgt c l A := wrap_id (by omega) (by omega)
  have v3 : IntKind.wrap .i64 (c.low * wgt c l A) = c.low * wgt c l A := wrap_id (by omega) (by omega)
  have v4 : IntKind.wrap .i64 (c.high * wgt c l A) = c.high * wgt c l A := wrap_id (by omega) (by omega)
  have k1 : (mom c l s A < q.lo * wgt c l A) = False := eq_false (by omega)
  have k2 : (q.hi * wgt c l A < mom c l s A) = False := eq_false (by omega)
  have hmin : (if B < A then B else A) = min A B := by split <;> omega
  have hmax : (if A < B then B else A) = max A B := by split <;> omega
  have hse2 : seaE c l s ⟨min A B, max A B⟩ = 0 := sea_fuel hse (by simp only; omega) (by simp only; omega) (by simp only; omega)
  have hB2 := hB ⟨min A B, max A B⟩
  have hQ2 := hQ ⟨min A B, max A B⟩
  have hd2 := pcE_dec c l s ⟨min A B, max A B⟩
  simp only at hd2
  have hcen : balB c l f s = true → (c.low * wgt c l A ≤ mom c l s A ∧ mom c l s A ≤ c.high * wgt c l A) ∧ balB c l ⟨min A B, max A B⟩ s = true := fun h =>
    ⟨by simpa [ctB] using fuel_bal h hAb.1 hAb.2, fuel_part h hAb.1 hAb.2 hBb.1 hBb.2⟩
  rw [hse2] at hB2
  rw [hse] at hBf
  clear hB hQ
  have hsli : ((s.length : Int) = l.length) = True := eq_true (by omega)
  have hall : ∀ k, k < s.length → ∃ q : Nat, s[k]? = some (q : Int) ∧ q < c.st.length := fun k hk => hsq k (by omega)
  cases hba : balB c l f s <;> rw [hba] at hBf
  case false =>
    simp -dsimp [Try.f7, E7, FreeAt, Ca.row, So.row]
    repeat' (first | omega | (simp -dsimp [E7, ri, cellp, ints, FreeAt, Ca.row, So.row, Sp.row, fcE_dec, h1, h2, hP, hQf, hc6, hl6, hs6, caE_dec, glE_dec, lodE3_dec, nf2_sl, pcE_dec, hle, hse, hBf, hq, hba, ww1, ww2, ww3, ww4, ww5, ww6, hW0]) | (refine Also.intro ?_ fun _ => ?_) | (refine Hold.intro fun _ => ?_) | (refine And.intro ?_ ?_))
    refine awp_loop [112, 113, 114, 115, 118, 119, 120, 121, 122, 123, 124, 125, 126, 127, 128, 129, 130, 131, 132, 133, 134, 135, 136, 137, 138, 6, 116, 117, 17] (fun k : { k : Nat // k ≤ s.length } => [(17, (true, .int .i64 k.1))]) (fun _ => _) (fun k => s.length - k.1) ⟨0, by omega⟩ ?_ (HLe.refl _) ?_
    · simp [okAll, okv]
    rintro ⟨k, hk⟩
    dsimp only
    by_cases hk1 : k < s.length
    · have hki : (k : Int) < s.length := by omega
      have wk : IntKind.wrap .i64 ((k : Int) + 1) = (k + 1 : Nat) := wrap_id (by omega) (by omega)
      obtain ⟨v, hv, hvn⟩ := hall k hk1
      have hv' : s[k] = v := (List.getElem?_eq_some_iff.1 hv).2
      have hv0 : ((v : Int) < 0) = False := eq_false (by omega)
      have hvni : ((c.st.length : Int) ≤ v) = False := eq_false (by omega)
      have hkl : ((l.length : Int) ≤ k) = False := eq_false (by omega)
      simp -dsimp [hki]
      repeat' (first | omega | (simp -dsimp [E7, ri, cellp, ints, Ca.row, hki, hk1, hv, hv', hv0, hvni, hkl, wk]) | (refine Also.intro ?_ fun _ => ?_) | (refine Hold.intro fun _ => ?_) | (refine And.intro ?_ ?_))
      refine ⟨k + 1, tle_chain rfl ?_, HLe.refl _, by omega, by omega⟩
      simp [okAll, okv]
    · have hkn : ¬ (k : Int) < s.length := by omega
      simp -dsimp [hkn]
      repeat' (first | omega | (simp -dsimp [E7, ri, cellp, ints, FreeAt, Ca.row, So.row, Sp.row, fcE_dec, h1, h2, hP, hQf, hc6, hl6, hs6, caE_dec, glE_dec, lodE3_dec, nf2_sl, pcE_dec, hle, hse, hBf, hq, hba, hkn, hsli, mtE_dec, hmt, v1, v2, v3, v4, k1, k2, hmin, hmax, hd2, hQ2, hB2]) | (refine Also.intro ?_ fun _ => ?_) | (refine Hold.intro fun _ => ?_) | (refine And.intro ?_ ?_))
  case true =>
    simp -dsimp [Try.f7, E7, FreeAt, Ca.row, So.row]
    repeat' (first | omega | (simp -dsimp [E7, ri, cellp, ints, FreeAt, Ca.row, So.row, Sp.row, fcE_dec, h1, h2, hP, hQf, hc6, hl6, hs6, caE_dec, glE_dec, lodE3_dec, nf2_sl, pcE_dec, hle, hse, hBf, hq, hba, ww1, ww2, ww3, ww4, ww5, ww6, hW0]) | (refine Also.intro ?_ fun _ => ?_) | (refine Hold.intro fun _ => ?_) | (refine And.intro ?_ ?_))
    refine awp_loop [112, 113, 114, 115, 118, 119, 120, 121, 122, 123, 124, 125, 126, 127, 128, 129, 130, 131, 132, 133, 134, 135, 136, 137, 138, 6, 116, 117, 17] (fun k : { k : Nat // k ≤ s.length } => [(17, (true, .int .i64 k.1))]) (fun _ => _) (fun k => s.length - k.1) ⟨0, by omega⟩ ?_ (HLe.refl _) ?_
    · simp [okAll, okv]
    rintro ⟨k, hk⟩
    dsimp only
    by_cases hk1 : k < s.length
    · have hki : (k : Int) < s.length := by omega
      have wk : IntKind.wrap .i64 ((k : Int) + 1) = (k + 1 : Nat) := wrap_id (by omega) (by omega)
      obtain ⟨v, hv, hvn⟩ := hall k hk1
      have hv' : s[k] = v := (List.getElem?_eq_some_iff.1 hv).2
      have hv0 : ((v : Int) < 0) = False := eq_false (by omega)
      have hvni : ((c.st.length : Int) ≤ v) = False := eq_false (by omega)
      have hkl : ((l.length : Int) ≤ k) = False := eq_false (by omega)
      simp -dsimp [hki]
      repeat' (first | omega | (simp -dsimp [E7, ri, cellp, ints, Ca.row, hki, hk1, hv, hv', hv0, hvni, hkl, wk]) | (refine Also.intro ?_ fun _ => ?_) | (refine Hold.intro fun _ => ?_) | (refine And.intro ?_ ?_))
      refine ⟨k + 1, tle_chain rfl ?_, HLe.refl _, by omega, by omega⟩
      simp [okAll, okv]
    · have hkn : ¬ (k : Int) < s.length := by omega
      obtain ⟨⟨kc1, kc2⟩, hba2⟩ := hcen hba
      have k3 : (mom c l s A < c.low * wgt c l A) = False := eq_false (by omega)
      have k4 : (c.high * wgt c l A < mom c l s A) = False := eq_false (by omega)
      rw [hba2] at hB2
      simp -dsimp [hkn]
      repeat' (first | omega | (simp -dsimp [E7, ri, cellp, ints, FreeAt, Ca.row, So.row, Sp.row, fcE_dec, h1, h2, hP, hQf, hc6, hl6, hs6, caE_dec, glE_dec, lodE3_dec, nf2_sl, pcE_dec, hle, hse, hBf, hq, hba, hkn, hsli, mtE_dec, hmt, v1, v2, v3, v4, k1, k2, k3, k4, hmin, hmax, hd2, hQ2, hB2]) | (refine Also.intro ?_ fun _ => ?_) | (refine Hold.intro fun _ => ?_) | (refine And.intro ?_ ?_))
theorem ok7 : FnOK Try.prog 7 (.pure trueFueS) := pure_fn (E := E7) rfl (.cons ok19 (.cons ok27 (.cons ok9 (.cons ok20 (.cons ok11 (.cons ok28 (.cons ok23 (.cons ok29 .nil)))))))) (ok := [(7, ([0, 2, 4, 5], [[0, 1, 2, 3, 4, 5, 6, 7, 8, 9, 10, 11]]))]) (fn := Try.f7) (by kernel_rfl) (by kernel_rfl) (by kernel_rfl) (by kernel_rfl) rfl (fun _ _ => by simp) b7
end Go.Sx
end
