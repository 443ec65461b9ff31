/- Crew: duties held against others, the first of some duties, those of one person. No conditions. -/
import Derived.Test.YtjpmoggimhmidaaGreatP39
set_option linter.unusedSimpArgs false
set_option linter.unusedVariables false
set_option linter.unusedSectionVars false
set_option linter.unusedSimpArgs false
set_option linter.unusedSectionVars false
set_option maxRecDepth 100000
set_option maxHeartbeats 1000000
namespace Go.Sx
open Go.Proofs

def bkRow (r : Ro) (o : List Du) : List V := [.sl 3 (r.ppl.map Pn.row), .int .i64 r.lng, .int .i64 r.rst, .int .i64 r.win, .int .i64 r.tot, .int .i64 r.rcn, .sl 3 (o.map Du.row)]
theorem bkRow_inj {r r' : Ro} {o o' : List Du} (h : bkRow r o = bkRow r' o') : r = r' ∧ o = o' := by
  cases r; cases r'
  simp only [bkRow, List.cons.injEq, V.sl.injEq, V.int.injEq, true_and, and_true] at h
  obtain ⟨h1, h2, h3, h4, h5, h6, h7⟩ := h
  rw [mapRow_inj Pn.row_inj h1, h2, h3, h4, h5, h6, mapRow_inj Du.row_inj h7]; exact ⟨rfl, rfl⟩
/-- What a closure tells of a duty. -/
inductive Clo where
  | oth (n : Int)
  | rst (r : Ro) (o : List Du) (x : Du)
  | rcn (r : Ro) (o : List Du) (x : Du)
instance : Inhabited Clo := ⟨.oth 0⟩
def Clo.v : Clo → V
  | .oth n => .fn 52 [cellp n]
  | .rst r o x => .fn 55 [.ip 7 [bkRow r o] 0 0, .ip 3 [x.row] 0 0]
  | .rcn r o x => .fn 85 [.ip 3 [x.row] 0 0, .ip 7 [bkRow r o] 0 0]
theorem Clo.v_inj (a b : Clo) (h : a.v = b.v) : a = b := by
  cases a <;> cases b <;> simp only [Clo.v, cellp, V.fn.injEq, List.cons.injEq, V.ip.injEq, V.int.injEq, true_and, and_true] at h
  · rw [h]
  · exact absurd h.1 (by decide)
  · exact absurd h.1 (by decide)
  · exact absurd h.1 (by decide)
  · obtain ⟨h1, h2⟩ := h
    obtain ⟨rfl, rfl⟩ := bkRow_inj h1
    obtain rfl := Du.row_inj _ _ h2
    rfl
  · exact absurd h.1 (by decide)
  · exact absurd h.1 (by decide)
  · exact absurd h.1 (by decide)
  · obtain ⟨h2, h1⟩ := h
    obtain ⟨rfl, rfl⟩ := bkRow_inj h1
    obtain rfl := Du.row_inj _ _ h2
    rfl
def Clo.t : Clo → Du → Bool
  | .oth n, d => d.p != n
  | .rst r _ x, d => !restW r d x
  | .rcn r _ x, d => nearW r x d

/-! rest -/
@[simp] def rsE (d : Ro × List Du × Du × Du) : List V := [.agg (bkRow d.1 d.2.1), .agg d.2.2.1.row, .agg d.2.2.2.row]
theorem rsE_inj (a b : Ro × List Du × Du × Du) (h : rsE a = rsE b) : a = b := by
  obtain ⟨a1, a2, a3, a4⟩ := a; obtain ⟨b1, b2, b3, b4⟩ := b
  simp only [rsE, List.cons.injEq, V.agg.injEq, and_true] at h
  obtain ⟨h1, h2, h3⟩ := h
  obtain ⟨rfl, rfl⟩ := bkRow_inj h1
  rw [Du.row_inj _ _ h2, Du.row_inj _ _ h3]
theorem rsE_dec (r : Ro) (o : List Du) (x y : Du) : decC rsE [.agg [.sl 3 (r.ppl.map Pn.row), .int .i64 r.lng, .int .i64 r.rst, .int .i64 r.win, .int .i64 r.tot, .int .i64 r.rcn, .sl 3 (o.map Du.row)], .agg [.int .i64 x.p, .int .i64 x.a, .int .i64 x.b], .agg [.int .i64 y.p, .int .i64 y.a, .int .i64 y.b]] = (r, o, x, y) := decC_eq rsE_inj (r, o, x, y)
noncomputable abbrev restS : PSpec := mkP rsE (fun _ => True) fun d => .bool (restW d.1 d.2.2.1 d.2.2.2)
noncomputable abbrev E56 : Env := { P := Tryz.prog, fn := tbl [], own := [], key := 5600, nt := 23 }
theorem b56 : PureBody E56 [] Tryz.f56 restS := by
  refine pb ?_
  rintro ⟨r, o, x, y⟩ _
  by_cases h : y.a < x.a
  · simp -dsimp [Tryz.f56, E56, bkRow, Du.row, restW, h]
    repeat' (first | omega | (simp -dsimp [E56, ri, cellp, ints, h, bkRow, Du.row]) | (refine Also.intro ?_ fun _ => ?_) | (refine Hold.intro fun _ => ?_) | (refine And.intro ?_ ?_))
  · simp -dsimp [Tryz.f56, E56, bkRow, Du.row, restW, h]
    repeat' (first | omega | (simp -dsimp [E56, ri, cellp, ints, h, bkRow, Du.row]) | (refine Also.intro ?_ fun _ => ?_) | (refine Hold.intro fun _ => ?_) | (refine And.intro ?_ ?_))
theorem ok56 : FnOK Tryz.prog 56 (.pure restS) := pure_fn (E := E56) rfl LOK.nil (ok := []) (fn := Tryz.f56) (by kernel_rfl) (by kernel_rfl) (by kernel_rfl) (by kernel_rfl) rfl (fun _ _ => by simp) b56

/-! the closures -/
@[simp] def othE (d : Du × Int) : List V := [.agg d.1.row, cellp d.2]
theorem othE_inj (a b : Du × Int) (h : othE a = othE b) : a = b := by
  obtain ⟨a1, a2⟩ := a; obtain ⟨b1, b2⟩ := b
  simp only [othE, cellp, List.cons.injEq, V.agg.injEq, V.ip.injEq, V.int.injEq, true_and, and_true] at h
  rw [Du.row_inj _ _ h.1, h.2]
theorem othE_dec (x : Du) (n : Int) : decC othE [.agg [.int .i64 x.p, .int .i64 x.a, .int .i64 x.b], .ip 1 [[.int .i64 n]] 0 0] = (x, n) := decC_eq othE_inj (x, n)
noncomputable abbrev othS : PSpec := mkP othE (fun _ => True) fun d => .bool (d.1.p != d.2)
noncomputable abbrev E52 : Env := { P := Tryz.prog, fn := tbl [], own := [], key := 5200, nt := 8 }
theorem b52 : PureBody E52 [] Tryz.f52 othS := by
  refine pb ?_
  rintro ⟨x, n⟩ _
  simp -dsimp [Tryz.f52, E52, Du.row, cellp]
  repeat' (first | omega | (simp -dsimp [E52, ri, cellp, ints, *]) | (refine Also.intro ?_ fun _ => ?_) | (refine Hold.intro fun _ => ?_) | (refine And.intro ?_ ?_))
theorem ok52 : FnOK Tryz.prog 52 (.pure othS) := pure_fn (E := E52) rfl LOK.nil (ok := []) (fn := Tryz.f52) (by kernel_rfl) (by kernel_rfl) (by kernel_rfl) (by kernel_rfl) rfl (fun _ _ => by simp) b52
@[simp] def rstE (d : Du × Ro × List Du × Du) : List V := [.agg d.1.row, .ip 7 [bkRow d.2.1 d.2.2.1] 0 0, .ip 3 [d.2.2.2.row] 0 0]
theorem rstE_inj (a b : Du × Ro × List Du × Du) (h : rstE a = rstE b) : a = b := by
  obtain ⟨a1, a2, a3, a4⟩ := a; obtain ⟨b1, b2, b3, b4⟩ := b
  simp only [rstE, List.cons.injEq, V.agg.injEq, V.ip.injEq, true_and, and_true] at h
  obtain ⟨h1, h2, h3⟩ := h
  obtain ⟨rfl, rfl⟩ := bkRow_inj h2
  rw [Du.row_inj _ _ h1, Du.row_inj _ _ h3]
theorem rstE_dec (r : Ro) (o : List Du) (x y : Du) : decC rstE [.agg [.int .i64 x.p, .int .i64 x.a, .int .i64 x.b], .ip 7 [[.sl 3 (r.ppl.map Pn.row), .int .i64 r.lng, .int .i64 r.rst, .int .i64 r.win, .int .i64 r.tot, .int .i64 r.rcn, .sl 3 (o.map Du.row)]] 0 0, .ip 3 [[.int .i64 y.p, .int .i64 y.a, .int .i64 y.b]] 0 0] = (x, r, o, y) := decC_eq rstE_inj (x, r, o, y)
noncomputable abbrev rstS : PSpec := mkP rstE (fun _ => True) fun d => .bool (!restW d.2.1 d.1 d.2.2.2)
noncomputable abbrev E55 : Env := { P := Tryz.prog, fn := tbl [(56, .pure restS)], own := [], key := 5500, nt := 10 }
theorem b55 : PureBody E55 [] Tryz.f55 rstS := by
  refine pb ?_
  rintro ⟨x, r, o, y⟩ _
  simp -dsimp [Tryz.f55, E55, Du.row, bkRow]
  repeat' (first | omega | (simp -dsimp [E55, ri, cellp, ints, rsE_dec, bkRow, Du.row]) | (refine Also.intro ?_ fun _ => ?_) | (refine Hold.intro fun _ => ?_) | (refine And.intro ?_ ?_))
theorem ok55 : FnOK Tryz.prog 55 (.pure rstS) := pure_fn (E := E55) rfl (.cons ok56 .nil) (ok := []) (fn := Tryz.f55) (by kernel_rfl) (by kernel_rfl) (by kernel_rfl) (by kernel_rfl) rfl (fun _ _ => by simp) b55
@[simp] def rcnE (d : Du × Ro × List Du × Du) : List V := [.agg d.1.row, .ip 3 [d.2.2.2.row] 0 0, .ip 7 [bkRow d.2.1 d.2.2.1] 0 0]
theorem rcnE_inj (a b : Du × Ro × List Du × Du) (h : rcnE a = rcnE b) : a = b := by
  obtain ⟨a1, a2, a3, a4⟩ := a; obtain ⟨b1, b2, b3, b4⟩ := b
  simp only [rcnE, List.cons.injEq, V.agg.injEq, V.ip.injEq, true_and, and_true] at h
  obtain ⟨h1, h3, h2⟩ := h
  obtain ⟨rfl, rfl⟩ := bkRow_inj h2
  rw [Du.row_inj _ _ h1, Du.row_inj _ _ h3]
theorem rcnE_dec (r : Ro) (o : List Du) (x y : Du) : decC rcnE [.agg [.int .i64 x.p, .int .i64 x.a, .int .i64 x.b], .ip 3 [[.int .i64 y.p, .int .i64 y.a, .int .i64 y.b]] 0 0, .ip 7 [[.sl 3 (r.ppl.map Pn.row), .int .i64 r.lng, .int .i64 r.rst, .int .i64 r.win, .int .i64 r.tot, .int .i64 r.rcn, .sl 3 (o.map Du.row)]] 0 0] = (x, r, o, y) := decC_eq rcnE_inj (x, r, o, y)
noncomputable abbrev rcnS : PSpec := mkP rcnE (fun _ => True) fun d => .bool (nearW d.2.1 d.2.2.2 d.1)
noncomputable abbrev E85 : Env := { P := Tryz.prog, fn := tbl [(29, .pure withinS)], own := [], key := 8500, nt := 14 }
theorem b85 : PureBody E85 [] Tryz.f85 rcnS := by
  refine pb ?_
  rintro ⟨x, r, o, y⟩ _
  simp -dsimp [Tryz.f85, E85, Du.row, bkRow]
  repeat' (first | omega | (simp -dsimp [E85, ri, cellp, ints, withinB, nearW, wr]) | (refine Also.intro ?_ fun _ => ?_) | (refine Hold.intro fun _ => ?_) | (refine And.intro ?_ ?_))
theorem ok85 : FnOK Tryz.prog 85 (.pure rcnS) := pure_fn (E := E85) rfl (.cons ok29 .nil) (ok := []) (fn := Tryz.f85) (by kernel_rfl) (by kernel_rfl) (by kernel_rfl) (by kernel_rfl) rfl (fun _ _ => by simp) b85

/-! the first duty of which a closure tells -/
@[simp] def duxE (d : List Du × Clo) : List V := [.sl 3 (d.1.map Du.row), d.2.v]
theorem duxE_inj (a b : List Du × Clo) (h : duxE a = duxE b) : a = b := by
  obtain ⟨a1, a2⟩ := a; obtain ⟨b1, b2⟩ := b
  simp only [duxE, List.cons.injEq, V.sl.injEq, true_and, and_true] at h
  rw [mapRow_inj Du.row_inj h.1, Clo.v_inj _ _ h.2]
theorem duxE_oth (l : List Du) (n : Int) : decC duxE [.sl 3 (l.map Du.row), .fn 52 [.ip 1 [[.int .i64 n]] 0 0]] = (l, .oth n) := decC_eq duxE_inj (l, .oth n)
theorem duxE_rst (l : List Du) (r : Ro) (o : List Du) (y : Du) : decC duxE [.sl 3 (l.map Du.row), .fn 55 [.ip 7 [[.sl 3 (r.ppl.map Pn.row), .int .i64 r.lng, .int .i64 r.rst, .int .i64 r.win, .int .i64 r.tot, .int .i64 r.rcn, .sl 3 (o.map Du.row)]] 0 0, .ip 3 [[.int .i64 y.p, .int .i64 y.a, .int .i64 y.b]] 0 0]] = (l, .rst r o y) := decC_eq duxE_inj (l, .rst r o y)
theorem duxE_rcn (l : List Du) (r : Ro) (o : List Du) (y : Du) : decC duxE [.sl 3 (l.map Du.row), .fn 85 [.ip 3 [[.int .i64 y.p, .int .i64 y.a, .int .i64 y.b]] 0 0, .ip 7 [[.sl 3 (r.ppl.map Pn.row), .int .i64 r.lng, .int .i64 r.rst, .int .i64 r.win, .int .i64 r.tot, .int .i64 r.rcn, .sl 3 (o.map Du.row)]] 0 0]] = (l, .rcn r o y) := decC_eq duxE_inj (l, .rcn r o y)
noncomputable abbrev duixS : PSpec := mkP duxE (fun d => d.1.length ≤ 1000000) fun d => .int .i64 (idxZ d.1 d.2.t)
noncomputable abbrev duanS : PSpec := mkP duxE (fun d => d.1.length ≤ 1000000) fun d => .bool (d.1.any d.2.t)

noncomputable abbrev E83 : Env := { P := Tryz.prog, fn := tbl [(52, .pure othS), (55, .pure rstS), (85, .pure rcnS)], own := [], key := 8300, nt := 19 }
theorem b83 : PureBody E83 [] Tryz.f83 duixS := by
  refine pb ?_
  rintro ⟨l, c⟩ hl
  have hl : l.length ≤ 1000000 := hl
  rcases c with n | ⟨r, o, y⟩ | ⟨r, o, y⟩
  · simp -dsimp [Tryz.f83, E83, Clo.v, cellp, bkRow, Du.row]
    refine awp_loop [9, 10, 5, 11, 12, 13, 14, 15, 16, 17, 4, 18, 8] (fun k : { k : Nat // k ≤ l.length ∧ ∀ j (h : j < l.length), j < k → (Clo.oth n).t l[j] = false } => [(8, (true, .int .i64 k.1))]) (fun _ => noH) (fun k => l.length - k.1) ⟨0, by omega, fun _ _ h => by omega⟩ ?_ (HLe.refl _) ?_
    · simp [okAll, okv]
    rintro ⟨k, hk, hall⟩
    by_cases hk1 : k < l.length
    · have hki : (k : Int) < l.length := by omega
      have wk : IntKind.wrap .i64 ((k : Int) + 1) = (k + 1 : Nat) := wrap_id (by omega) (by omega)
      cases hw : (Clo.oth n).t l[k]
      · have hw' := hw
        simp only [Clo.t] at hw'
        simp -dsimp [hki]
        repeat' (first | omega | (simp -dsimp [E83, ri, cellp, ints, hki, hk1, hl, hw', wk, Du.row, bkRow, othE_dec]) | (refine Also.intro ?_ fun _ => ?_) | (refine Hold.intro fun _ => ?_) | (refine And.intro ?_ ?_))
        refine ⟨k + 1, tle_chain rfl ?_, HLe.refl _, ⟨by omega, fun j h hj => ?_⟩, by omega⟩
        · simp [okAll, okv]
        · by_cases hjk : j = k
          · subst hjk; exact hw
          · exact hall j h (by omega)
      · have hz := idxZ_at l (Clo.oth n).t hk1 hw hall
        have hw' := hw
        simp only [Clo.t] at hw'
        simp -dsimp [hki]
        repeat' (first | omega | (simp -dsimp [E83, ri, cellp, ints, hki, hk1, hl, hw', wk, hz, Du.row, bkRow, othE_dec]) | (refine Also.intro ?_ fun _ => ?_) | (refine Hold.intro fun _ => ?_) | (refine And.intro ?_ ?_))
    · have hkn : ¬ (k : Int) < l.length := by omega
      have hz := idxZ_none l (Clo.oth n).t (fun j h => hall j h (by omega))
      simp -dsimp [hkn]
      repeat' (first | omega | (simp -dsimp [E83, ri, cellp, ints, hkn, hz]) | (refine Also.intro ?_ fun _ => ?_) | (refine Hold.intro fun _ => ?_) | (refine And.intro ?_ ?_))
  · simp -dsimp [Tryz.f83, E83, Clo.v, cellp, bkRow, Du.row]
    refine awp_loop [9, 10, 5, 11, 12, 13, 14, 15, 16, 17, 4, 18, 8] (fun k : { k : Nat // k ≤ l.length ∧ ∀ j (h : j < l.length), j < k → (Clo.rst r o y).t l[j] = false } => [(8, (true, .int .i64 k.1))]) (fun _ => noH) (fun k => l.length - k.1) ⟨0, by omega, fun _ _ h => by omega⟩ ?_ (HLe.refl _) ?_
    · simp [okAll, okv]
    rintro ⟨k, hk, hall⟩
    by_cases hk1 : k < l.length
    · have hki : (k : Int) < l.length := by omega
      have wk : IntKind.wrap .i64 ((k : Int) + 1) = (k + 1 : Nat) := wrap_id (by omega) (by omega)
      cases hw : (Clo.rst r o y).t l[k]
      · have hw' := hw
        simp only [Clo.t] at hw'
        simp -dsimp [hki]
        repeat' (first | omega | (simp -dsimp [E83, ri, cellp, ints, hki, hk1, hl, hw', wk, Du.row, bkRow, rstE_dec]) | (refine Also.intro ?_ fun _ => ?_) | (refine Hold.intro fun _ => ?_) | (refine And.intro ?_ ?_))
        refine ⟨k + 1, tle_chain rfl ?_, HLe.refl _, ⟨by omega, fun j h hj => ?_⟩, by omega⟩
        · simp [okAll, okv]
        · by_cases hjk : j = k
          · subst hjk; exact hw
          · exact hall j h (by omega)
      · have hz := idxZ_at l (Clo.rst r o y).t hk1 hw hall
        have hw' := hw
        simp only [Clo.t] at hw'
        simp -dsimp [hki]
        repeat' (first | omega | (simp -dsimp [E83, ri, cellp, ints, hki, hk1, hl, hw', wk, hz, Du.row, bkRow, rstE_dec]) | (refine Also.intro ?_ fun _ => ?_) | (refine Hold.intro fun _ => ?_) | (refine And.intro ?_ ?_))
    · have hkn : ¬ (k : Int) < l.length := by omega
      have hz := idxZ_none l (Clo.rst r o y).t (fun j h => hall j h (by omega))
      simp -dsimp [hkn]
      repeat' (first | omega | (simp -dsimp [E83, ri, cellp, ints, hkn, hz]) | (refine Also.intro ?_ fun _ => ?_) | (refine Hold.intro fun _ => ?_) | (refine And.intro ?_ ?_))
  · simp -dsimp [Tryz.f83, E83, Clo.v, cellp, bkRow, Du.row]
    refine awp_loop [9, 10, 5, 11, 12, 13, 14, 15, 16, 17, 4, 18, 8] (fun k : { k : Nat // k ≤ l.length ∧ ∀ j (h : j < l.length), j < k → (Clo.rcn r o y).t l[j] = false } => [(8, (true, .int .i64 k.1))]) (fun _ => noH) (fun k => l.length - k.1) ⟨0, by omega, fun _ _ h => by omega⟩ ?_ (HLe.refl _) ?_
    · simp [okAll, okv]
    rintro ⟨k, hk, hall⟩
    by_cases hk1 : k < l.length
    · have hki : (k : Int) < l.length := by omega
      have wk : IntKind.wrap .i64 ((k : Int) + 1) = (k + 1 : Nat) := wrap_id (by omega) (by omega)
      cases hw : (Clo.rcn r o y).t l[k]
      · have hw' := hw
        simp only [Clo.t] at hw'
        simp -dsimp [hki]
        repeat' (first | omega | (simp -dsimp [E83, ri, cellp, ints, hki, hk1, hl, hw', wk, Du.row, bkRow, rcnE_dec]) | (refine Also.intro ?_ fun _ => ?_) | (refine Hold.intro fun _ => ?_) | (refine And.intro ?_ ?_))
        refine ⟨k + 1, tle_chain rfl ?_, HLe.refl _, ⟨by omega, fun j h hj => ?_⟩, by omega⟩
        · simp [okAll, okv]
        · by_cases hjk : j = k
          · subst hjk; exact hw
          · exact hall j h (by omega)
      · have hz := idxZ_at l (Clo.rcn r o y).t hk1 hw hall
        have hw' := hw
        simp only [Clo.t] at hw'
        simp -dsimp [hki]
        repeat' (first | omega | (simp -dsimp [E83, ri, cellp, ints, hki, hk1, hl, hw', wk, hz, Du.row, bkRow, rcnE_dec]) | (refine Also.intro ?_ fun _ => ?_) | (refine Hold.intro fun _ => ?_) | (refine And.intro ?_ ?_))
    · have hkn : ¬ (k : Int) < l.length := by omega
      have hz := idxZ_none l (Clo.rcn r o y).t (fun j h => hall j h (by omega))
      simp -dsimp [hkn]
      repeat' (first | omega | (simp -dsimp [E83, ri, cellp, ints, hkn, hz]) | (refine Also.intro ?_ fun _ => ?_) | (refine Hold.intro fun _ => ?_) | (refine And.intro ?_ ?_))
theorem ok83 : FnOK Tryz.prog 83 (.pure duixS) := pure_fn (E := E83) rfl (.cons ok52 (.cons ok55 (.cons ok85 .nil))) (ok := []) (fn := Tryz.f83) (by kernel_rfl) (by kernel_rfl) (by kernel_rfl) (by kernel_rfl) rfl (fun _ _ => by simp) b83
noncomputable abbrev E54 : Env := { P := Tryz.prog, fn := tbl [(83, .pure duixS)], own := [], key := 5400, nt := 9 }
theorem b54 : PureBody E54 [] Tryz.f54 duanS := by
  refine pb ?_
  rintro ⟨l, c⟩ hl
  have hl : l.length ≤ 1000000 := hl
  have hz := idxZ_any l c.t
  rcases c with n | ⟨r, o, y⟩ | ⟨r, o, y⟩
  all_goals
    simp -dsimp [Tryz.f54, E54, Clo.v, cellp, bkRow, Du.row]
    repeat' (first | omega | (simp -dsimp [E54, ri, cellp, ints, hl, duxE_oth, duxE_rst, duxE_rcn, hz]) | (refine Also.intro ?_ fun _ => ?_) | (refine Hold.intro fun _ => ?_) | (refine And.intro ?_ ?_))
theorem ok54 : FnOK Tryz.prog 54 (.pure duanS) := pure_fn (E := E54) rfl (.cons ok83 .nil) (ok := []) (fn := Tryz.f54) (by kernel_rfl) (by kernel_rfl) (by kernel_rfl) (by kernel_rfl) rfl (fun _ _ => by simp) b54
end Go.Sx

