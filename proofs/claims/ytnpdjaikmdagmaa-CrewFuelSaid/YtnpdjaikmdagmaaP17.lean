/- A part of a proof; no conditions. -/
import Derived.Test.YtnpdjaikmdagmaaP16
set_option linter.unusedSimpArgs false
set_option linter.unusedVariables false
set_option linter.unusedSectionVars false
section
/- Crew: what is worked, the rules that a duty breaks. No conditions. -/
set_option linter.unusedSimpArgs false
set_option linter.unusedSectionVars false
set_option maxRecDepth 100000
set_option maxHeartbeats 2000000
namespace Go.Sx
open Go.Proofs
attribute [local irreducible] HLe

def swS (to : Int) (l : List Du) (x : Int) : Nat → Int × Int
  | 0 => (x, 0)
  | k + 1 => if max (duAt l k).a (swS to l x k).1 < min (duAt l k).b to then (min (duAt l k).b to, wr ((swS to l x k).2 + wr (min (duAt l k).b to - max (duAt l k).a (swS to l x k).1))) else swS to l x k
theorem swS_eq (to : Int) (l : List Du) (x : Int) : ∀ k, k ≤ l.length → swpW to (l.drop k) (swS to l x k).1 (swS to l x k).2 = swpW to l x 0
  | 0, _ => rfl
  | k + 1, hk => by
    have ih := swS_eq to l x k (by omega)
    rw [List.drop_eq_getElem_cons (show k < l.length by omega), swpW] at ih
    have e : l[k]'(by omega) = duAt l k := by simp [duAt, List.getD, show k < l.length by omega]
    rw [e] at ih
    rw [← ih, swS]
    split <;> rfl
theorem swS_end (to : Int) (l : List Du) (x : Int) : (swS to l x l.length).2 = swpW to l x 0 := by
  have := swS_eq to l x l.length (Nat.le_refl _)
  rw [List.drop_length] at this
  exact this
@[simp] def wkE (d : List Du × Int × Int) : List V := [.sl 3 (d.1.map Du.row), .int .i64 d.2.1, .int .i64 d.2.2]
theorem wkE_inj (a b : List Du × Int × Int) (h : wkE a = wkE b) : a = b := by
  obtain ⟨a1, a2, a3⟩ := a; obtain ⟨b1, b2, b3⟩ := b
  simp only [wkE, List.cons.injEq, V.sl.injEq, V.int.injEq, true_and, and_true] at h
  rw [mapRow_inj Du.row_inj h.1, h.2.1, h.2.2]
theorem wkE_dec (l : List Du) (x y : Int) : decC wkE [.sl 3 (l.map Du.row), .int .i64 x, .int .i64 y] = (l, x, y) := decC_eq wkE_inj (l, x, y)
/-- Duties that can be sorted. -/
structure Beg (l : List Du) : Prop where
  n : l.length ≤ 1000000
  b : ∀ d ∈ l, 0 ≤ d.a ∧ d.a ≤ 9223372036854775807
noncomputable abbrev wkS : PSpec := mkP wkE (fun d => d.1 ≠ [] ∧ Beg d.1) fun d => .int .i64 (wkW srtD d.1 d.2.1 d.2.2)
noncomputable abbrev E101 : Env := { P := Try.prog, fn := tbl [(80, .heap cloS), (108, .heap duSortS)], own := [], key := 10100, nt := 42 }
theorem b101 : PureBody E101 [] Try.f101 wkS := by
  refine pb ?_
  rintro ⟨l, x, y⟩ ⟨hne, hl, hb⟩
  simp only at hne hl hb
  have hn0 : 0 < l.length := List.length_pos_iff.2 hne
  have hgo : duSortS.go [.bsl 8005 0 l.length, .fn 109 []] (hps [(8005, { base := 0, blks := [{ z := 3, els := l.map Du.row, ty := 66 }] })] noH) = ⟨True, .tup [], hps [(8005, { base := 0, blks := [{ z := 3, els := (srtD l).map Du.row, ty := 66 }] })] noH⟩ := by
    rw [duSort_go (l := l) (cl := true) hb rfl rfl (by omega) (by omega)]
    simp
  have hsl := srtD_len hb
  have hw : wkW srtD l x y = (swS y (srtD l) x (srtD l).length).2 := (swS_end _ _ _).symm
  simp -dsimp [Try.f101, E101, cloS_go]
  repeat' (first | omega | (simp -dsimp [E101, ri, cellp, ints, cloS_go, hl, hgo, hne]) | (refine Also.intro ?_ fun _ => ?_) | (refine Hold.intro fun _ => ?_) | (refine And.intro ?_ ?_))
  generalize srtD l = L at *
  refine awp_loop [20, 21, 22, 9, 23, 24, 25, 26, 27, 28, 29, 30, 10, 11, 31, 32, 33, 34, 35, 36, 37, 38, 6, 39, 7, 40, 19] (fun k : { k : Nat // k ≤ L.length } => [(19, (true, .int .i64 k.1)), (7, (true, .int .i64 (swS y L x k.1).1)), (6, (true, .int .i64 (swS y L x k.1).2))]) (fun k => hps [(10109, { base := k.1, blks := [] }), (8005, { base := 0, blks := [{ z := 3, els := L.map Du.row, ty := 66 }] })] noH) (fun k => L.length - k.1) ⟨0, by omega⟩ ?_ ?_ ?_
  · simp [okAll, okv, swS]
  · exact (by (try simp -dsimp only [hpush_noH, hpush_hps, hps_over]); refine hle_hps ?_; simp -dsimp [allK, ]; repeat' (first | (refine And.intro ?_ ?_) | (refine sLe.same ?_ ?_ <;> (simp; done)) | (refine sLe.clear ?_ ?_ <;> (first | (simp; done) | (simp; omega))) | (refine sLe.drop 1 ?_ ?_ ?_ <;> (simp; done))))
  rintro ⟨k, hk⟩
  dsimp only
  by_cases hk1 : k < L.length
  · have hki : (k : Int) < l.length := by omega
    have wk : IntKind.wrap .i64 ((k : Int) + 1) = (k + 1 : Nat) := wrap_id (by omega) (by omega)
    obtain ⟨d, hd⟩ : ∃ d, L[k]? = some d := ⟨_, List.getElem?_eq_getElem hk1⟩
    have hd' : L[k] = d := get_of hd hk1
    have hda : duAt L k = d := by simp [duAt, List.getD, hd]
    have hS : swS y L x (k + 1) = if max d.a (swS y L x k).1 < min d.b y then (min d.b y, wr ((swS y L x k).2 + wr (min d.b y - max d.a (swS y L x k).1))) else swS y L x k := by rw [swS, hda]
    generalize swS y L x k = S at *
    obtain ⟨s1, s2⟩ := S
    dsimp only at hS ⊢
    have hM : (if d.a < s1 then s1 else d.a) = max d.a s1 := by omega
    have hN : (if y < d.b then y else d.b) = min d.b y := by omega
    generalize max d.a s1 = M at *
    generalize min d.b y = N at *
    by_cases hMN : M < N
    · rw [if_pos hMN] at hS
      simp -dsimp [hki]
      repeat' (first | omega | (simp -dsimp [E101, ri, cellp, ints, hki, hk1, hd, hd', hsl, wk, Du.row, hM, hN, hMN]) | (refine Also.intro ?_ fun _ => ?_) | (refine Hold.intro fun _ => ?_) | (refine And.intro ?_ ?_))
      refine ⟨k + 1, tle_chain rfl ?_, ?_, by omega, by omega⟩
      · simp [okAll, okv, hS, wk]
      · exact (by (try simp -dsimp only [hpush_noH, hpush_hps, hps_over]); refine hle_hps ?_; simp -dsimp [allK, ]; repeat' (first | (refine And.intro ?_ ?_) | (refine sLe.same ?_ ?_ <;> (simp; done)) | (refine sLe.clear ?_ ?_ <;> (first | (simp; done) | (simp; omega))) | (refine sLe.drop 1 ?_ ?_ ?_ <;> (simp; done))))
    · rw [if_neg hMN] at hS
      simp -dsimp [hki]
      repeat' (first | omega | (simp -dsimp [E101, ri, cellp, ints, hki, hk1, hd, hd', hsl, wk, Du.row, hM, hN, hMN]) | (refine Also.intro ?_ fun _ => ?_) | (refine Hold.intro fun _ => ?_) | (refine And.intro ?_ ?_))
      refine ⟨k + 1, tle_chain rfl ?_, ?_, by omega, by omega⟩
      · simp [okAll, okv, hS, wk]
      · exact (by (try simp -dsimp only [hpush_noH, hpush_hps, hps_over]); refine hle_hps ?_; simp -dsimp [allK, ]; repeat' (first | (refine And.intro ?_ ?_) | (refine sLe.same ?_ ?_ <;> (simp; done)) | (refine sLe.clear ?_ ?_ <;> (first | (simp; done) | (simp; omega))) | (refine sLe.drop 1 ?_ ?_ ?_ <;> (simp; done))))
  · have hkn : ¬ (k : Int) < l.length := by omega
    have hke : k = L.length := by omega
    subst hke
    simp -dsimp [hkn]
    repeat' (first | omega | (simp -dsimp [E101, ri, cellp, ints, hkn, hw]) | (refine Also.intro ?_ fun _ => ?_) | (refine Hold.intro fun _ => ?_) | (refine And.intro ?_ ?_))
theorem ok101 : FnOK Try.prog 101 (.pure wkS) := pure_fn (E := E101) rfl (.cons ok80 (.cons ok108 .nil)) (ok := []) (fn := Try.f101) (by kernel_rfl) (by kernel_rfl) (by kernel_rfl) (by kernel_rfl) rfl (fun _ _ => by simp) b101

/-! no window with too much -/
@[simp] def toE (d : Ro × List Du × List Du) : List V := [.agg (bkRow d.1 d.2.1), .sl 3 (d.2.2.map Du.row)]
theorem toE_inj (a b : Ro × List Du × List Du) (h : toE a = toE b) : a = b := by
  obtain ⟨a1, a2, a3⟩ := a; obtain ⟨b1, b2, b3⟩ := b
  simp only [toE, List.cons.injEq, V.agg.injEq, V.sl.injEq, true_and, and_true] at h
  obtain ⟨h1, h2⟩ := h
  obtain ⟨rfl, rfl⟩ := bkRow_inj h1
  rw [mapRow_inj Du.row_inj h2]
theorem toE_dec (r : Ro) (o l : List Du) : decC toE [.agg [.sl 3 (r.ppl.map Pn.row), .int .i64 r.lng, .int .i64 r.rst, .int .i64 r.win, .int .i64 r.tot, .int .i64 r.rcn, .sl 3 (o.map Du.row)], .sl 3 (l.map Du.row)] = (r, o, l) := decC_eq toE_inj (r, o, l)
noncomputable abbrev totS : PSpec := mkP toE (fun d => Beg d.2.2) fun d => .bool (totW srtD d.2.2 d.1.win d.1.tot)
noncomputable def totT (r : Ro) (l : List Du) (d : Du) : Bool := decide (wkW srtD l d.a (wr (d.a + r.win)) ≤ r.tot) && decide (wkW srtD l (wr (d.b - r.win)) d.b ≤ r.tot)
noncomputable abbrev E86 : Env := { P := Try.prog, fn := tbl [(101, .pure wkS)], own := [], key := 8600, nt := 44 }
theorem b86 : PureBody E86 [] Try.f86 totS := by
  refine pb ?_
  rintro ⟨r, o, l⟩ hB
  have hB : Beg l := hB
  have hl := hB.n
  have hT : totW srtD l r.win r.tot = l.all (totT r l) := rfl
  simp -dsimp [Try.f86, E86, bkRow]
  refine awp_loop [10, 11, 12, 6, 13, 14, 15, 16, 17, 18, 19, 20, 21, 22, 23, 24, 25, 26, 27, 28, 29, 30, 31, 32, 33, 34, 35, 36, 37, 38, 39, 40, 41, 42, 4, 43, 9] (fun k : { k : Nat // k ≤ l.length ∧ ∀ j (h : j < l.length), j < k → totT r l l[j] = true } => [(9, (true, .int .i64 k.1))]) (fun k => hps [(8606, { base := k.1, blks := [] }), (8602, { base := 0, blks := [{ z := 7, els := [bkRow r o], ty := 102 }] })] noH) (fun k => l.length - k.1) ⟨0, by omega, fun _ _ h => by omega⟩ ?_ ?_ ?_
  · simp [okAll, okv]
  · exact (by (try simp -dsimp only [hpush_noH, hpush_hps, hps_over]); refine hle_hps ?_; simp -dsimp [allK, bkRow]; repeat' (first | (refine And.intro ?_ ?_) | (refine sLe.same ?_ ?_ <;> (simp; done)) | (refine sLe.clear ?_ ?_ <;> (first | (simp; done) | (simp; omega))) | (refine sLe.drop 1 ?_ ?_ ?_ <;> (simp; done))))
  rintro ⟨k, hk, hall⟩
  dsimp only
  by_cases hk1 : k < l.length
  · have hki : (k : Int) < l.length := by omega
    have wk : IntKind.wrap .i64 ((k : Int) + 1) = (k + 1 : Nat) := wrap_id (by omega) (by omega)
    have hne : l ≠ [] := by intro e; rw [e] at hk1; simp at hk1
    obtain ⟨d, hd⟩ : ∃ d, l[k]? = some d := ⟨_, List.getElem?_eq_getElem hk1⟩
    have hd' : l[k] = d := get_of hd hk1
    have hTd : totT r l d = (decide (wkW srtD l d.a (wr (d.a + r.win)) ≤ r.tot) && decide (wkW srtD l (wr (d.b - r.win)) d.b ≤ r.tot)) := rfl
    cases hw : totT r l d
    · have hno : totW srtD l r.win r.tot = false := by
        rw [hT, List.all_eq_false]; exact ⟨d, List.mem_of_getElem? hd, by rw [hw]; simp⟩
      rw [hw] at hTd
      by_cases h1 : wkW srtD l d.a (wr (d.a + r.win)) ≤ r.tot
      · have h2 : ¬ wkW srtD l (wr (d.b - r.win)) d.b ≤ r.tot := by simpa [h1] using hTd
        have h1' : ¬ r.tot < wkW srtD l d.a (IntKind.wrap .i64 (d.a + r.win)) := by exact Int.not_lt.2 h1
        have h2' : r.tot < wkW srtD l (IntKind.wrap .i64 (d.b - r.win)) d.b := by exact Int.not_le.1 h2
        simp -dsimp [hki]
        repeat' (first | omega | (simp -dsimp [E86, ri, cellp, ints, hki, hk1, hd, hd', hl, wk, hB, hne, Du.row, bkRow, wkE_dec, h1', h2', hno]) | (refine Also.intro ?_ fun _ => ?_) | (refine Hold.intro fun _ => ?_) | (refine And.intro ?_ ?_))
      · have h1' : r.tot < wkW srtD l d.a (IntKind.wrap .i64 (d.a + r.win)) := by exact Int.not_le.1 h1
        simp -dsimp [hki]
        repeat' (first | omega | (simp -dsimp [E86, ri, cellp, ints, hki, hk1, hd, hd', hl, wk, hB, hne, Du.row, bkRow, wkE_dec, h1', hno]) | (refine Also.intro ?_ fun _ => ?_) | (refine Hold.intro fun _ => ?_) | (refine And.intro ?_ ?_))
    · rw [hw] at hTd
      have hTd' := hTd.symm
      simp only [Bool.and_eq_true, decide_eq_true_eq] at hTd'
      have h1' : ¬ r.tot < wkW srtD l d.a (IntKind.wrap .i64 (d.a + r.win)) := by exact Int.not_lt.2 hTd'.1
      have h2' : ¬ r.tot < wkW srtD l (IntKind.wrap .i64 (d.b - r.win)) d.b := by exact Int.not_lt.2 hTd'.2
      simp -dsimp [hki]
      repeat' (first | omega | (simp -dsimp [E86, ri, cellp, ints, hki, hk1, hd, hd', hl, wk, hB, hne, Du.row, bkRow, wkE_dec, h1', h2']) | (refine Also.intro ?_ fun _ => ?_) | (refine Hold.intro fun _ => ?_) | (refine And.intro ?_ ?_))
      refine ⟨k + 1, tle_chain rfl ?_, ?_, ⟨by omega, fun j h hj => ?_⟩, by omega⟩
      · simp [okAll, okv, wk]
      · exact (by (try simp -dsimp only [hpush_noH, hpush_hps, hps_over]); refine hle_hps ?_; simp -dsimp [allK, bkRow]; repeat' (first | (refine And.intro ?_ ?_) | (refine sLe.same ?_ ?_ <;> (simp; done)) | (refine sLe.clear ?_ ?_ <;> (first | (simp; done) | (simp; omega))) | (refine sLe.drop 1 ?_ ?_ ?_ <;> (simp; done))))
      · by_cases hjk : j = k
        · subst hjk; rw [hd']; exact hw
        · exact hall j h (by omega)
  · have hkn : ¬ (k : Int) < l.length := by omega
    have hyes : totW srtD l r.win r.tot = true := by
      rw [hT, List.all_eq_true]
      intro d hd
      obtain ⟨j, hj, rfl⟩ := List.getElem_of_mem hd
      exact hall j hj (by omega)
    simp -dsimp [hkn]
    repeat' (first | omega | (simp -dsimp [E86, ri, cellp, ints, hkn, hyes]) | (refine Also.intro ?_ fun _ => ?_) | (refine Hold.intro fun _ => ?_) | (refine And.intro ?_ ?_))
theorem ok86 : FnOK Try.prog 86 (.pure totS) := pure_fn (E := E86) rfl (.cons ok101 .nil) (ok := []) (fn := Try.f86) (by kernel_rfl) (by kernel_rfl) (by kernel_rfl) (by kernel_rfl) rfl (fun _ _ => by simp) b86
@[simp] def reE (d : Ro × List Du × Du) : List V := [.agg (bkRow d.1 d.2.1), .agg d.2.2.row]
theorem reE_inj (a b : Ro × List Du × Du) (h : reE a = reE b) : a = b := by
  obtain ⟨a1, a2, a3⟩ := a; obtain ⟨b1, b2, b3⟩ := b
  simp only [reE, List.cons.injEq, V.agg.injEq, true_and, and_true] at h
  obtain ⟨h1, h2⟩ := h
  obtain ⟨rfl, rfl⟩ := bkRow_inj h1
  rw [Du.row_inj _ _ h2]
theorem reE_dec (r : Ro) (o : List Du) (x : Du) : decC reE [.agg [.sl 3 (r.ppl.map Pn.row), .int .i64 r.lng, .int .i64 r.rst, .int .i64 r.win, .int .i64 r.tot, .int .i64 r.rcn, .sl 3 (o.map Du.row)], .agg [.int .i64 x.p, .int .i64 x.a, .int .i64 x.b]] = (r, o, x) := decC_eq reE_inj (r, o, x)
noncomputable abbrev recS : PSpec := mkP reE (fun d => d.2.1.length ≤ 1000000) fun d => .bool (recW d.1 d.2.1 d.2.2)
noncomputable abbrev E87 : Env := { P := Try.prog, fn := tbl [(83, .pure duanS)], own := [], key := 8700, nt := 17 }
theorem b87 : PureBody E87 [] Try.f87 recS := by
  refine pb ?_
  rintro ⟨r, o, x⟩ hl
  have hl : o.length ≤ 1000000 := hl
  have hR : recW r o x = (decide (x.a ≤ r.rcn) || o.any (nearW r x)) := rfl
  have hC : ((Clo.rcn r o x).t) = nearW r x := rfl
  by_cases h : x.a ≤ r.rcn
  · simp -dsimp [Try.f87, E87, bkRow, Du.row, h]
    repeat' (first | omega | (simp -dsimp [E87, ri, cellp, ints, h, hl, hR]) | (refine Also.intro ?_ fun _ => ?_) | (refine Hold.intro fun _ => ?_) | (refine And.intro ?_ ?_))
  · simp -dsimp [Try.f87, E87, bkRow, Du.row, h]
    repeat' (first | omega | (simp -dsimp [E87, ri, cellp, ints, h, hl, hR, duxE_rcn, Clo.v, bkRow, Du.row, hC]) | (refine Also.intro ?_ fun _ => ?_) | (refine Hold.intro fun _ => ?_) | (refine And.intro ?_ ?_))
theorem ok87 : FnOK Try.prog 87 (.pure recS) := pure_fn (E := E87) rfl (.cons ok83 .nil) (ok := []) (fn := Try.f87) (by kernel_rfl) (by kernel_rfl) (by kernel_rfl) (by kernel_rfl) rfl (fun _ _ => by simp) b87

/-! the rules that a duty breaks -/
def ouL (l : List Int) : List (Nat × Site) :=
  [(5704, { base := 0, blks := [{ z := 1, els := [[if l = [] then .nil else .bsl 8209 0 l.length]], ty := 24, cl := l.isEmpty }] }), (8209, { base := 0, blks := if l = [] then [] else [{ z := 1, els := l.map ri, ty := 3 }] })]
theorem ouL_keys (l : List Int) : (ouL l).map (·.1) = [5704, 8209] := rfl
theorem ouL_inj (l l' : List Int) (h : ∀ k ∈ [5704, 8209], hps (ouL l) noH k = hps (ouL l') noH k) : l = l' := by
  have h1 := congrArg Site.blks (h 8209 (by simp))
  simp [ouL] at h1
  by_cases e : l = [] <;> by_cases e' : l' = [] <;> simp [e, e'] at h1 ⊢
  exact map_ri_inj h1
def puE (d : List Int × Int × Bool) : List V := [.int .i64 d.2.1, .bool d.2.2, .bptr 5704 0 1 0 0]
theorem pu_inj (d d' : List Int × Int × Bool) (h : Hp) (e : puE d = puE d') (h1 : Mt ouL [5704, 8209] d.1 h) (h2 : Mt ouL [5704, 8209] d'.1 h) : d = d' := by
  obtain ⟨l, n, b⟩ := d; obtain ⟨l', n', b'⟩ := d'
  have := ouL_inj l l' fun k hk => (h1 k hk).symm.trans (h2 k hk)
  simp [puE] at e
  rw [this, e.1, e.2]
noncomputable abbrev putS : HSpec := mkH puE (fun d h => Mt ouL [5704, 8209] d.1 h) (fun d => d.1.length ≤ 100) (fun _ => .tup []) (fun d h => Ob ouL (if d.2.2 = true then d.1 ++ [d.2.1] else d.1) h)
def ouP (l : List Int) (n : Int) (b : Bool) : List Int := if b = true then l ++ [n] else l
theorem put_go (l : List Int) (n : Int) (b : Bool) (h : Hp) : putS.go [.int .i64 n, .bool b, .bptr 5704 0 1 0 0] (Ob ouL l h) = ⟨l.length ≤ 100, .tup [], Ob ouL (ouP l n b) h⟩ := by
  have := mkH_at (pre := fun d : List Int × Int × Bool => d.1.length ≤ 100) (res := fun _ => V.tup []) (post := fun d h => Ob ouL (if d.2.2 = true then d.1 ++ [d.2.1] else d.1) h) pu_inj (d := (l, n, b)) (h := Ob ouL l h) (ob_mt' ouL_keys)
  rw [ob_ob ouL_keys] at this
  exact this
noncomputable abbrev E82 : Env := { P := Try.prog, fn := tbl [], own := [], key := 8200, nt := 10 }
theorem b82 : HeapBody E82 [] Try.f82 putS := by
  intro args h hc
  obtain ⟨⟨l, n, b⟩, rfl, hM, hl, hgo⟩ := mkH_inv hc
  rw [hgo]
  clear hgo hc
  have hM : h = Ob ouL l h := (ob_mt ouL_keys).1 hM
  have hl : l.length ≤ 100 := hl
  dsimp only
  rw [hM]
  generalize h = g at *
  clear hM
  rw [ob_ob ouL_keys]
  cases b
  · simp -dsimp [Try.f82, E82, puE]
    repeat' (first | omega | (simp -dsimp [E82, ri, cellp, ints, hle_refl]) | (refine Also.intro ?_ fun _ => ?_) | (refine Hold.intro fun _ => ?_) | (refine And.intro ?_ ?_))
  · by_cases hl0 : l = []
    · subst hl0
      simp -dsimp [Try.f82, E82, puE, Ob, ouL]
      repeat' (first | omega | (simp -dsimp [E82, ri, cellp, ints, *]) | (refine Also.intro ?_ fun _ => ?_) | (refine Hold.intro fun _ => ?_) | (refine And.intro ?_ ?_))
      exact (by (try simp -dsimp only [hpush_noH, hpush_hps, hps_over]); refine hle_hpsb ?_; simp -dsimp [allK, ri]; repeat' (first | (refine And.intro ?_ ?_) | (refine sLe.same ?_ ?_ <;> (simp; done)) | (refine sLe.clear ?_ ?_ <;> (first | (simp; done) | (simp; omega))) | (refine sLe.drop 1 ?_ ?_ ?_ <;> (simp; done))))
    · simp -dsimp [Try.f82, E82, puE, Ob, ouL, hl0]
      repeat' (first | omega | (simp -dsimp [E82, ri, cellp, ints, hl0, hl]) | (refine Also.intro ?_ fun _ => ?_) | (refine Hold.intro fun _ => ?_) | (refine And.intro ?_ ?_))
      exact (by (try simp -dsimp only [hpush_noH, hpush_hps, hps_over]); refine hle_hpsb ?_; simp -dsimp [allK, ri]; repeat' (first | (refine And.intro ?_ ?_) | (refine sLe.same ?_ ?_ <;> (simp; done)) | (refine sLe.clear ?_ ?_ <;> (first | (simp; done) | (simp; omega))) | (refine sLe.drop 1 ?_ ?_ ?_ <;> (simp; done))))
theorem ok82 : FnOK Try.prog 82 (.heap putS) := heap_fn (E := E82) rfl LOK.nil (ok := []) (fn := Try.f82) (by kernel_rfl) (by kernel_rfl) (by kernel_rfl) (by kernel_rfl) rfl (fun args h hc => by obtain ⟨d, rfl, _⟩ := mkH_inv hc; simp [puE]) b82
def ouA (l : List Int) : Site := { base := 0, blks := [{ z := 1, els := [[if l = [] then .nil else .bsl 8209 0 l.length]], ty := 24, cl := l.isEmpty }] }
def ouB (l : List Int) : Site := { base := 0, blks := if l = [] then [] else [{ z := 1, els := l.map ri, ty := 3 }] }
theorem put_gen (l : List Int) (n : Int) (b : Bool) (h : Hp) (h1 : h 5704 = ouA l) (h2 : h 8209 = ouB l) : putS.go [.int .i64 n, .bool b, .bptr 5704 0 1 0 0] h = ⟨l.length ≤ 100, .tup [], Ob ouL (ouP l n b) h⟩ := by
  have hh : h = Ob ouL l h := (ob_mt ouL_keys).1 fun k hk => by
    simp only [List.mem_cons, List.not_mem_nil, or_false] at hk
    rcases hk with rfl | rfl
    · exact h1
    · exact h2
  have := put_go l n b h
  rw [← hh] at this
  exact this
theorem ou_hps (l : List Int) (L : List (Nat × Site)) : Ob ouL l (hps L noH) = hps ((5704, ouA l) :: (8209, ouB l) :: L) noH := rfl
theorem put_1 (n : Int) (b : Bool) (A B : Site) : putS.go [.int .i64 n, .bool b, .bptr 5704 0 1 0 0] (hps [(5704, { base := 0, blks := [{ z := 1, els := [[V.nil]], ty := 24 }] }), (5703, A), (5702, B)] noH) = ⟨True, .tup [], hps [(5704, ouA (ouP [] n b)), (8209, ouB (ouP [] n b)), (5703, A), (5702, B)] noH⟩ := by
  rw [put_gen [] n b _ rfl rfl, ou_hps]
  congr 1
  · simp
  · funext k
    by_cases h1 : k = 5704
    · simp [h1]
    · by_cases h2 : k = 8209
      · simp [h2]
      · simp [h1, h2]
theorem put_2 (l : List Int) (n : Int) (b : Bool) (L : List (Nat × Site)) : putS.go [.int .i64 n, .bool b, .bptr 5704 0 1 0 0] (hps ((5704, ouA l) :: (8209, ouB l) :: L) noH) = ⟨l.length ≤ 100, .tup [], hps ((5704, ouA (ouP l n b)) :: (8209, ouB (ouP l n b)) :: L) noH⟩ := by
  rw [put_gen l n b _ rfl rfl, ou_hps]
  congr 1
  funext k
  by_cases h1 : k = 5704
  · simp [h1]
  · by_cases h2 : k = 8209
    · simp [h2]
    · simp [h1, h2]
theorem put_3 (l : List Int) (n : Int) (b : Bool) (X A B A' B' : Site) : putS.go [.int .i64 n, .bool b, .bptr 5704 0 1 0 0] (hps [(8005, X), (5703, A'), (5702, B'), (5704, ouA l), (8209, ouB l), (5703, A), (5702, B)] noH) = ⟨l.length ≤ 100, .tup [], hps [(5704, ouA (ouP l n b)), (8209, ouB (ouP l n b)), (8005, X), (5703, A'), (5702, B')] noH⟩ := by
  rw [put_gen l n b _ rfl rfl, ou_hps]
  congr 1
  funext k
  by_cases h1 : k = 5704
  · simp [h1]
  · by_cases h2 : k = 8209
    · simp [h2]
    · by_cases h3 : k = 5703
      · simp [h3]
      · by_cases h4 : k = 5702
        · simp [h4]
        · simp [h1, h2, h3, h4]
end Go.Sx
end
section
/- Crew: the rules that a duty breaks. No conditions. -/
set_option linter.unusedSimpArgs false
set_option linter.unusedSectionVars false
set_option maxRecDepth 100000
set_option maxHeartbeats 2000000
namespace Go.Sx
open Go.Proofs
attribute [local irreducible] HLe

noncomputable abbrev brkS : PSpec := mkP reE (fun d => Beg (d.2.1 ++ [d.2.2])) fun d => ints (brkW srtD d.1 d.2.1 d.2.2)
noncomputable abbrev E57 : Env := { P := Try.prog, fn := tbl [(83, .pure duanS), (86, .pure totS), (87, .pure recS), (80, .heap cloS), (82, .heap putS)], own := [], key := 5700, nt := 42, frz := [(4, [2, 50002, 3, 50003])] }
theorem b57 : PureBody E57 [(4, ([1, 3, 5], [[0, 1, 2, 3, 4, 5, 6, 7, 8, 9, 10]]))] Try.f57 brkS := by
  refine pb ?_
  rintro ⟨r, o, x⟩ hB
  have hB : Beg (o ++ [x]) := hB
  have hl : o.length ≤ 1000000 := by have := hB.n; simp at this; omega
  have hap : List.map Du.row o ++ [[V.int .i64 x.p, V.int .i64 x.a, V.int .i64 x.b]] = List.map Du.row (o ++ [x]) := by rw [List.map_append]; rfl
  have hK : brkW srtD r o x = (if (o.any (Clo.rst r o x).t) = true then [3] else []) ++ (if r.lng < wr (x.b - x.a) then [4] else []) ++ (if totW srtD (o ++ [x]) r.win r.tot = true then [] else [5]) ++ (if recW r o x = true then [] else [6]) := rfl
  have hox : (o ++ [x]).length = o.length + 1 := by simp
  generalize o ++ [x] = ox at hap hK hB hox
  generalize h3 : o.any (Clo.rst r o x).t = c3 at hK
  generalize h5 : totW srtD ox r.win r.tot = c5 at hK
  generalize h6 : recW r o x = c6 at hK
  generalize h4 : decide (r.lng < wr (x.b - x.a)) = c4
  have hK2 : (if r.lng < wr (x.b - x.a) then [(4 : Int)] else []) = if c4 = true then [4] else [] := by
    by_cases h : r.lng < wr (x.b - x.a)
    · rw [if_pos h, if_pos (by rw [← h4]; simpa using h)]
    · rw [if_neg h, if_neg (by rw [← h4]; simpa using h)]
  rw [hK2] at hK
  have h4' : decide (r.lng < IntKind.wrap .i64 (x.b - x.a)) = c4 := h4
  have l1 : (ouP [] 3 c3).length ≤ 100 := by cases c3 <;> simp [ouP]
  have l2 : (ouP (ouP [] 3 c3) 4 c4).length ≤ 100 := by cases c3 <;> cases c4 <;> simp [ouP]
  have l3 : (ouP (ouP (ouP [] 3 c3) 4 c4) 5 (!c5)).length ≤ 100 := by cases c3 <;> cases c4 <;> cases c5 <;> simp [ouP]
  have hK' : brkW srtD r o x = ouP (ouP (ouP (ouP [] 3 c3) 4 c4) 5 (!c5)) 6 (!c6) := by
    rw [hK]; cases c3 <;> cases c4 <;> cases c5 <;> cases c6 <;> rfl
  clear hK
  generalize hP : ouP (ouP (ouP (ouP [] 3 c3) 4 c4) 5 (!c5)) 6 (!c6) = P at hK'
  simp -dsimp [Try.f57, E57, FreeAt, put_1, put_2, put_3, cloS_go, toE_dec, reE_dec, duxE_rst, Clo.v, h3, h4', h5, h6, l1, l2, l3, hP, hl, hap, hox, hB, bkRow, Du.row]
  repeat' (first | omega | (simp -dsimp [E57, ri, cellp, ints, FreeAt, put_1, put_2, put_3, cloS_go, toE_dec, reE_dec, duxE_rst, Clo.v, h3, h4', h5, h6, l1, l2, l3, hP, hl, hap, hox, hB, bkRow, Du.row]) | (refine Also.intro ?_ fun _ => ?_) | (refine Hold.intro fun _ => ?_) | (refine And.intro ?_ ?_))
  all_goals
    clear hP
    by_cases hP0 : P = []
    · subst hP0
      repeat' (first | omega | (simp -dsimp [E57, ri, cellp, ints, ouA, ouB, hK']) | (refine Also.intro ?_ fun _ => ?_) | (refine Hold.intro fun _ => ?_) | (refine And.intro ?_ ?_))
    · repeat' (first | omega | (simp -dsimp [E57, ri, cellp, ints, ouA, ouB, hP0, hK']) | (refine Also.intro ?_ fun _ => ?_) | (refine Hold.intro fun _ => ?_) | (refine And.intro ?_ ?_))
theorem ok57 : FnOK Try.prog 57 (.pure brkS) := pure_fn (E := E57) rfl (.cons ok83 (.cons ok86 (.cons ok87 (.cons ok80 (.cons ok82 .nil))))) (ok := [(4, ([1, 3, 5], [[0, 1, 2, 3, 4, 5, 6, 7, 8, 9, 10]]))]) (fn := Try.f57) (by kernel_rfl) (by kernel_rfl) (by kernel_rfl) (by kernel_rfl) rfl (fun _ _ => by simp) b57
end Go.Sx
end
section
/- Crew: right duties; whether a call is one. No conditions. -/
set_option linter.unusedSimpArgs false
set_option linter.unusedSectionVars false
set_option maxRecDepth 100000
set_option maxHeartbeats 2000000
namespace Go.Sx
open Go.Proofs
attribute [local irreducible] HLe

@[simp] def chE (d : Ro × List Du) : List V := [.agg d.1.row, .sl 3 (d.2.map Du.row)]
theorem chE_inj (a b : Ro × List Du) (h : chE a = chE b) : a = b := by
  obtain ⟨a1, a2⟩ := a; obtain ⟨b1, b2⟩ := b
  simp only [chE, List.cons.injEq, V.agg.injEq, V.sl.injEq, true_and, and_true] at h
  rw [Ro.row_inj _ _ h.1, mapRow_inj Du.row_inj h.2]
theorem chE_dec (r : Ro) (l : List Du) : decC chE [.agg [.sl 3 (r.ppl.map Pn.row), .int .i64 r.lng, .int .i64 r.rst, .int .i64 r.win, .int .i64 r.tot, .int .i64 r.rcn], .sl 3 (l.map Du.row)] = (r, l) := decC_eq chE_inj (r, l)
structure ChP (d : Ro × List Du) : Prop where
  p : d.1.ppl.length ≤ 1000000
  n : d.2.length ≤ 1000000
noncomputable abbrev chS : PSpec := mkP chE ChP fun d => .tup [.int .i64 (chkEW srtD d.1 d.2).1, .int .i64 (chkEW srtD d.1 d.2).2]
theorem chk_no {r : Ro} {l : List Du} (h : r.ok = false) : chkEW srtD r l = (0, 100) := by simp [chkEW, h]
theorem chk_many {r : Ro} {l : List Du} (h : r.ok = true) (h2 : 60 < l.length) : chkEW srtD r l = (0, 2) := by simp [chkEW, h, h2]
theorem chk_bad {r : Ro} {l : List Du} (h : r.ok = true) (h2 : ¬ 60 < l.length) {k : Nat} (hk : k < l.length) (hp : duOkW srtD r l k = false) (hall : ∀ j, j < k → duOkW srtD r l j = true) : chkEW srtD r l = ((k : Int), 101) := by
  have : badDuW srtD r l = k := idxZ_at _ _ (by simpa using hk) (by simp [hp]) fun j _ hj => by simp [hall j hj]
  simp [chkEW, h, h2, this]
theorem chk_ok {r : Ro} {l : List Du} (h : r.ok = true) (h2 : ¬ 60 < l.length) (hall : ∀ j, j < l.length → duOkW srtD r l j = true) : chkEW srtD r l = (0, 0) := by
  have : badDuW srtD r l = -1 := idxZ_none _ _ fun j hj => by simp at hj ⊢; exact hall j hj
  simp [chkEW, h, h2, this]
theorem duOkW_eq (r : Ro) (l : List Du) (i : Nat) (d : Du) (hd : duAt l i = d) : duOkW srtD r l i = (withinB d.p 0 (r.ppl.length - 1) && strW d.a d.b && (decide (i = 0) || decide ((duAt l (i - 1)).a ≤ d.a)) && (brkW srtD r (own (l.take i) d.p) d).isEmpty) := by
  subst hd; rfl
theorem duOkW_beg {r : Ro} {l : List Du} {i : Nat} (h : duOkW srtD r l i = true) : 0 ≤ (duAt l i).a ∧ (duAt l i).a ≤ 9223372036854775807 := by
  unfold duOkW at h
  simp only [Bool.and_eq_true] at h
  exact strW_beg h.1.1.2
theorem duOkW_begs {r : Ro} {l : List Du} {k : Nat} (hk : k ≤ l.length) (h : ∀ j, j < k → duOkW srtD r l j = true) : ∀ d ∈ l.take k, 0 ≤ d.a ∧ d.a ≤ 9223372036854775807 := by
  intro d hd
  obtain ⟨j, hj, rfl⟩ := List.getElem_of_mem hd
  have hj2 : j < k ∧ j < l.length := by rw [List.length_take] at hj; omega
  have := duOkW_beg (h j hj2.1)
  have e : duAt l j = (l.take k)[j] := by simp [duAt, List.getD, hj2.2]
  rw [← e]; exact this
noncomputable abbrev E26 : Env := { P := Try.prog, fn := tbl [(42, .pure withinS), (54, .pure rosS), (55, .pure strS), (56, .pure ofS), (57, .pure brkS)], own := [], key := 2600, nt := 70 }
theorem b26 : PureBody E26 [] Try.f26 chS := by
  refine pb ?_
  rintro ⟨r, l⟩ ⟨hp, hl⟩
  simp only at hp hl
  cases hok : r.ok
  · have hz := chk_no (l := l) hok
    simp -dsimp [Try.f26, E26, Ro.row, pplV, roE_dec, hp, hok]
    repeat' (first | omega | (simp -dsimp [E26, ri, cellp, ints, Ro.row, pplV, roE_dec, hp, hok, hz]) | (refine Also.intro ?_ fun _ => ?_) | (refine Hold.intro fun _ => ?_) | (refine And.intro ?_ ?_))
  by_cases h60 : 60 < l.length
  · have h60i : (60 : Int) < l.length := by omega
    have hz := chk_many (l := l) hok h60
    simp -dsimp [Try.f26, E26, Ro.row, pplV, roE_dec, hp, hok]
    repeat' (first | omega | (simp -dsimp [E26, ri, cellp, ints, Ro.row, pplV, roE_dec, hp, hok, hz, h60i]) | (refine Also.intro ?_ fun _ => ?_) | (refine Hold.intro fun _ => ?_) | (refine And.intro ?_ ?_))
  have h60i : ¬ (60 : Int) < l.length := by omega
  have hwp : IntKind.wrap .i64 ((r.ppl.length : Int) - 1) = r.ppl.length - 1 := wrap_id (by omega) (by omega)
  simp -dsimp [Try.f26, E26, Ro.row, pplV, roE_dec, hp, hok]
  repeat' (first | omega | (simp -dsimp [E26, ri, cellp, ints, Ro.row, pplV, roE_dec, hp, hok, h60i]) | (refine Also.intro ?_ fun _ => ?_) | (refine Hold.intro fun _ => ?_) | (refine And.intro ?_ ?_))
  refine awp_loop [20, 21, 22, 23, 8, 7, 24, 25, 26, 27, 28, 29, 30, 31, 32, 33, 34, 35, 36, 37, 38, 39, 40, 41, 42, 43, 44, 45, 46, 47, 48, 49, 50, 51, 52, 53, 54, 55, 56, 57, 58, 59, 60, 61, 62, 63, 64, 65, 66, 67, 68, 4, 5, 69, 19] (fun k : { k : Nat // k ≤ l.length ∧ ∀ j, j < k → duOkW srtD r l j = true } => [(19, (true, .int .i64 k.1))]) (fun k => hps [(2608, { base := k.1, blks := [] }), (2602, { base := 0, blks := [{ z := 6, els := [r.row], ty := 33 }] })] noH) (fun k => l.length - k.1) ⟨0, by omega, fun _ h => by omega⟩ ?_ ?_ ?_
  · simp [okAll, okv]
  · exact (by (try simp -dsimp only [hpush_noH, hpush_hps, hps_over]); refine hle_hps ?_; simp -dsimp [allK, Ro.row, pplV]; repeat' (first | (refine And.intro ?_ ?_) | (refine sLe.same ?_ ?_ <;> (simp; done)) | (refine sLe.clear ?_ ?_ <;> (first | (simp; done) | (simp; omega))) | (refine sLe.drop 1 ?_ ?_ ?_ <;> (simp; done))))
  rintro ⟨k, hk, hall⟩
  dsimp only
  by_cases hk1 : k < l.length
  · have hki : (k : Int) < l.length := by omega
    have wk : IntKind.wrap .i64 ((k : Int) + 1) = (k + 1 : Nat) := wrap_id (by omega) (by omega)
    obtain ⟨d, hd⟩ : ∃ d, l[k]? = some d := ⟨_, List.getElem?_eq_getElem hk1⟩
    have hd' : l[k] = d := get_of hd hk1
    have hda : duAt l k = d := by simp [duAt, List.getD, hd]
    have hD := duOkW_eq r l k d hda
    have hbeg := duOkW_begs (by omega) hall
    have hlk : (l.take k).length ≤ 1000000 := by simp; omega
    have hbb : ∀ n, ∀ x ∈ own (l.take k) n, 0 ≤ x.a ∧ x.a ≤ 9223372036854775807 := fun n x hx => hbeg x (own_mem.1 hx).1
    have hon : (own (l.take k) d.p).length ≤ k := by have := own_len (l.take k) d.p; simp at this; omega
    have hmt : List.take k (l.map Du.row) = (l.take k).map Du.row := by rw [List.map_take]
    generalize l.take k = lk at *
    have hon' : ∀ x ∈ own lk d.p, 0 ≤ x.a ∧ x.a ≤ 9223372036854775807 := hbb d.p
    by_cases hk0 : k = 0
    · subst hk0
      have hne : (l = []) = False := eq_false (by rintro rfl; simp at hk1)
      have w1 : IntKind.wrap .i64 1 = 1 := wrap_id (by omega) (by omega)
      cases c1 : withinB d.p 0 (r.ppl.length - 1)
      · have hz := chk_bad hok h60 hk1 (by rw [hD, c1]; rfl) hall
        simp -dsimp [hki]
        repeat' (first | omega | (simp -dsimp [E26, ri, cellp, ints, hne, w1, hki, hk1, hd, hd', hl, wk, hwp, hmt, hlk, ofE_dec, reE_dec, Du.row, Ro.row, pplV, bkRow, c1, hz]) | (refine Also.intro ?_ fun _ => ?_) | (refine Hold.intro fun _ => ?_) | (refine And.intro ?_ ?_))
      cases c2 : strW d.a d.b
      · have hz := chk_bad hok h60 hk1 (by rw [hD, c1, c2]; rfl) hall
        simp -dsimp [hki]
        repeat' (first | omega | (simp -dsimp [E26, ri, cellp, ints, hne, w1, hki, hk1, hd, hd', hl, wk, hwp, hmt, hlk, ofE_dec, reE_dec, Du.row, Ro.row, pplV, bkRow, c1, c2, hz]) | (refine Also.intro ?_ fun _ => ?_) | (refine Hold.intro fun _ => ?_) | (refine And.intro ?_ ?_))
      have hsb := strW_beg c2
      have hBg : Beg (own lk d.p ++ [d]) := ⟨by simp; omega, fun x hx => by
        rcases List.mem_append.1 hx with h | h
        · exact hon' x h
        · exact List.mem_singleton.1 h ▸ hsb⟩
      generalize hB : brkW srtD r (own lk d.p) d = B at hD
      cases B with
      | nil =>
        simp -dsimp [hki]
        repeat' (first | omega | (simp -dsimp [E26, ri, cellp, ints, hne, w1, hki, hk1, hd, hd', hl, wk, hwp, hmt, hlk, ofE_dec, reE_dec, Du.row, Ro.row, pplV, bkRow, c1, c2, hB, hBg]) | (refine Also.intro ?_ fun _ => ?_) | (refine Hold.intro fun _ => ?_) | (refine And.intro ?_ ?_))
        refine ⟨0 + 1, tle_chain rfl ?_, ?_, ⟨by omega, fun i hi => ?_⟩, by omega⟩
        · simp [okAll, okv, w1]
        · exact (by (try simp -dsimp only [hpush_noH, hpush_hps, hps_over]); refine hle_hps ?_; simp -dsimp [allK, Ro.row, pplV]; repeat' (first | (refine And.intro ?_ ?_) | (refine sLe.same ?_ ?_ <;> (simp; done)) | (refine sLe.clear ?_ ?_ <;> (first | (simp; done) | (simp; omega))) | (refine sLe.drop 1 ?_ ?_ ?_ <;> (simp; done))))
        · by_cases hik : i = 0
          · subst hik; rw [hD, c1, c2]; simp
          · exact hall i (by omega)
      | cons b bs =>
        have hz := chk_bad hok h60 hk1 (by rw [hD]; simp) hall
        simp -dsimp [hki]
        repeat' (first | omega | (simp -dsimp [E26, ri, cellp, ints, hne, w1, hki, hk1, hd, hd', hl, wk, hwp, hmt, hlk, ofE_dec, reE_dec, Du.row, Ro.row, pplV, bkRow, c1, c2, hB, hBg, hz]) | (refine Also.intro ?_ fun _ => ?_) | (refine Hold.intro fun _ => ?_) | (refine And.intro ?_ ?_))
    · obtain ⟨j, rfl⟩ : ∃ j, k = j + 1 := ⟨k - 1, by omega⟩
      have hj1 : j < l.length := by omega
      obtain ⟨e, he⟩ : ∃ e, l[j]? = some e := ⟨_, List.getElem?_eq_getElem hj1⟩
      have he' : l[j] = e := get_of he hj1
      have hde : duAt l (j + 1 - 1) = e := by simp [duAt, List.getD, he]
      have wj : IntKind.wrap .i64 (((j + 1 : Nat) : Int) - 1) = (j : Nat) := by rw [wrap_id (by omega) (by omega)]; omega
      have wj2 : IntKind.wrap .i64 (j : Int) = (j : Nat) := wrap_id (by omega) (by omega)
      have hji : (j : Int) < l.length := by omega
      have wk2 : IntKind.wrap .i64 ((j : Int) + 1 + 1) = (j : Int) + 1 + 1 := wrap_id (by omega) (by omega)
      have hd3 : (decide (j + 1 = 0) || decide ((duAt l (j + 1 - 1)).a ≤ d.a)) = decide (e.a ≤ d.a) := by rw [hde]; simp
      cases c1 : withinB d.p 0 (r.ppl.length - 1)
      · have hz := chk_bad hok h60 hk1 (by rw [hD, c1]; rfl) hall
        simp -dsimp [hki]
        repeat' (first | omega | (simp -dsimp [E26, ri, cellp, ints, wk2, hki, hk1, hd, hd', hl, wk, hwp, hmt, hlk, ofE_dec, reE_dec, Du.row, Ro.row, pplV, bkRow, wj, wj2, hji, hj1, he, he', c1, hz]) | (refine Also.intro ?_ fun _ => ?_) | (refine Hold.intro fun _ => ?_) | (refine And.intro ?_ ?_))
      cases c2 : strW d.a d.b
      · have hz := chk_bad hok h60 hk1 (by rw [hD, c1, c2]; rfl) hall
        simp -dsimp [hki]
        repeat' (first | omega | (simp -dsimp [E26, ri, cellp, ints, wk2, hki, hk1, hd, hd', hl, wk, hwp, hmt, hlk, ofE_dec, reE_dec, Du.row, Ro.row, pplV, bkRow, wj, wj2, hji, hj1, he, he', c1, c2, hz]) | (refine Also.intro ?_ fun _ => ?_) | (refine Hold.intro fun _ => ?_) | (refine And.intro ?_ ?_))
      by_cases c3 : d.a < e.a
      · have hz := chk_bad hok h60 hk1 (by rw [hD, c1, c2, hd3, decide_eq_false (by omega : ¬ e.a ≤ d.a)]; simp) hall
        simp -dsimp [hki]
        repeat' (first | omega | (simp -dsimp [E26, ri, cellp, ints, wk2, hki, hk1, hd, hd', hl, wk, hwp, hmt, hlk, ofE_dec, reE_dec, Du.row, Ro.row, pplV, bkRow, wj, wj2, hji, hj1, he, he', c1, c2, c3, hz]) | (refine Also.intro ?_ fun _ => ?_) | (refine Hold.intro fun _ => ?_) | (refine And.intro ?_ ?_))
      have hd4 : decide (e.a ≤ d.a) = true := decide_eq_true (by omega)
      have hsb := strW_beg c2
      have hBg : Beg (own lk d.p ++ [d]) := ⟨by simp; omega, fun x hx => by
        rcases List.mem_append.1 hx with h | h
        · exact hon' x h
        · exact List.mem_singleton.1 h ▸ hsb⟩
      generalize hB : brkW srtD r (own lk d.p) d = B at hD
      cases B with
      | nil =>
        simp -dsimp [hki]
        repeat' (first | omega | (simp -dsimp [E26, ri, cellp, ints, wk2, hki, hk1, hd, hd', hl, wk, hwp, hmt, hlk, ofE_dec, reE_dec, Du.row, Ro.row, pplV, bkRow, wj, wj2, hji, hj1, he, he', c1, c2, c3, hB, hBg]) | (refine Also.intro ?_ fun _ => ?_) | (refine Hold.intro fun _ => ?_) | (refine And.intro ?_ ?_))
        refine ⟨(j + 1) + 1, tle_chain rfl ?_, ?_, ⟨by omega, fun i hi => ?_⟩, by omega⟩
        · simp [okAll, okv, wk2]
        · exact (by (try simp -dsimp only [hpush_noH, hpush_hps, hps_over]); refine hle_hps ?_; simp -dsimp [allK, Ro.row, pplV]; repeat' (first | (refine And.intro ?_ ?_) | (refine sLe.same ?_ ?_ <;> (simp; done)) | (refine sLe.clear ?_ ?_ <;> (first | (simp; done) | (simp; omega))) | (refine sLe.drop 1 ?_ ?_ ?_ <;> (simp; done))))
        · by_cases hik : i = (j + 1)
          · subst hik; rw [hD, c1, c2, hd3, hd4]; simp
          · exact hall i (by omega)
      | cons b bs =>
        have hz := chk_bad hok h60 hk1 (by rw [hD]; simp) hall
        simp -dsimp [hki]
        repeat' (first | omega | (simp -dsimp [E26, ri, cellp, ints, wk2, hki, hk1, hd, hd', hl, wk, hwp, hmt, hlk, ofE_dec, reE_dec, Du.row, Ro.row, pplV, bkRow, wj, wj2, hji, hj1, he, he', c1, c2, c3, hB, hBg, hz]) | (refine Also.intro ?_ fun _ => ?_) | (refine Hold.intro fun _ => ?_) | (refine And.intro ?_ ?_))
  · have hkn : ¬ (k : Int) < l.length := by omega
    have hz := chk_ok hok h60 fun j hj => hall j (by omega)
    simp -dsimp [hkn]
    repeat' (first | omega | (simp -dsimp [E26, ri, cellp, ints, hkn, hz]) | (refine Also.intro ?_ fun _ => ?_) | (refine Hold.intro fun _ => ?_) | (refine And.intro ?_ ?_))
theorem ok26 : FnOK Try.prog 26 (.pure chS) := pure_fn (E := E26) rfl (.cons ok42 (.cons ok54 (.cons ok55 (.cons ok56 (.cons ok57 .nil))))) (ok := []) (fn := Try.f26) (by kernel_rfl) (by kernel_rfl) (by kernel_rfl) (by kernel_rfl) rfl (fun _ _ => by simp) b26
end Go.Sx
end
section
/- Crew: what is right beside duties; calls; why somebody may not fly. No conditions. -/
set_option linter.unusedSimpArgs false
set_option linter.unusedSectionVars false
set_option maxRecDepth 100000
set_option maxHeartbeats 2000000
namespace Go.Sx
open Go.Proofs
attribute [local irreducible] HLe

@[simp] def ckE (d : Ro × List Du × Bool) : List V := [.agg d.1.row, .sl 3 (d.2.1.map Du.row), .bool d.2.2]
theorem ckE_inj (a b : Ro × List Du × Bool) (h : ckE a = ckE b) : a = b := by
  obtain ⟨a1, a2, a3⟩ := a; obtain ⟨b1, b2, b3⟩ := b
  simp only [ckE, List.cons.injEq, V.agg.injEq, V.sl.injEq, V.bool.injEq, true_and, and_true] at h
  rw [Ro.row_inj _ _ h.1, mapRow_inj Du.row_inj h.2.1, h.2.2]
theorem ckE_dec (r : Ro) (l : List Du) (b : Bool) : decC ckE [.agg [.sl 3 (r.ppl.map Pn.row), .int .i64 r.lng, .int .i64 r.rst, .int .i64 r.win, .int .i64 r.tot, .int .i64 r.rcn], .sl 3 (l.map Du.row), .bool b] = (r, l, b) := decC_eq ckE_inj (r, l, b)
noncomputable abbrev ckS : PSpec := mkP ckE (fun d => ChP (d.1, d.2.1)) fun d => .int .i64 (chk2W srtD d.1 d.2.1 d.2.2)
noncomputable abbrev E41 : Env := { P := Try.prog, fn := tbl [(26, .pure chS)], own := [], key := 4100, nt := 22 }
theorem b41 : PureBody E41 [] Try.f41 ckS := by
  refine pb ?_
  rintro ⟨r, l, b⟩ hC
  have hC : ChP (r, l) := hC
  have h2 : chk2W srtD r l b = if (chkEW srtD r l).2 = 0 then (if b = true then 0 else 1) else (chkEW srtD r l).2 := rfl
  rcases hK : chkEW srtD r l with ⟨i, e⟩
  rw [hK] at h2
  dsimp only at h2
  by_cases he : e = 0
  · subst he
    rw [if_pos rfl] at h2
    cases b
    · simp -dsimp [Try.f41, E41, Ro.row, pplV]
      repeat' (first | omega | (simp -dsimp [E41, ri, cellp, ints, Ro.row, pplV, chE_dec, hC, hK, h2]) | (refine Also.intro ?_ fun _ => ?_) | (refine Hold.intro fun _ => ?_) | (refine And.intro ?_ ?_))
    · simp -dsimp [Try.f41, E41, Ro.row, pplV]
      repeat' (first | omega | (simp -dsimp [E41, ri, cellp, ints, Ro.row, pplV, chE_dec, hC, hK, h2]) | (refine Also.intro ?_ fun _ => ?_) | (refine Hold.intro fun _ => ?_) | (refine And.intro ?_ ?_))
  · rw [if_neg he] at h2
    have he' : ((e : Int) = 0) = False := eq_false he
    simp -dsimp [Try.f41, E41, Ro.row, pplV]
    repeat' (first | omega | (simp -dsimp [E41, ri, cellp, ints, Ro.row, pplV, chE_dec, hC, hK, h2, he']) | (refine Also.intro ?_ fun _ => ?_) | (refine Hold.intro fun _ => ?_) | (refine And.intro ?_ ?_))
theorem ok41 : FnOK Try.prog 41 (.pure ckS) := pure_fn (E := E41) rfl (.cons ok26 .nil) (ok := []) (fn := Try.f41) (by kernel_rfl) (by kernel_rfl) (by kernel_rfl) (by kernel_rfl) rfl (fun _ _ => by simp) b41
@[simp] def clE (c : Cl) : List V := [.agg c.row]
theorem clE_inj (a b : Cl) (h : clE a = clE b) : a = b := Cl.row_inj _ _ (by simpa using h)
theorem clE_dec (c : Cl) : decC clE [.agg [.int .i64 c.a, .int .i64 c.b, .int .i64 c.craft, .bool c.water]] = c := decC_eq clE_inj c
noncomputable abbrev callS : PSpec := mkP clE (fun _ => True) fun c => .bool (callW c)
theorem callW_eq (c : Cl) : callW c = (strW c.a c.b && withinB c.craft 0 7) := rfl
noncomputable abbrev E43 : Env := { P := Try.prog, fn := tbl [(55, .pure strS), (42, .pure withinS)], own := [], key := 4300, nt := 13 }
theorem b43 : PureBody E43 [] Try.f43 callS := by
  refine pb ?_
  rintro ⟨a, b, k, w⟩ _
  simp -dsimp [Try.f43, E43, callW_eq, Cl.row]
theorem ok43 : FnOK Try.prog 43 (.pure callS) := pure_fn (E := E43) rfl (.cons ok55 (.cons ok42 .nil)) (ok := []) (fn := Try.f43) (by kernel_rfl) (by kernel_rfl) (by kernel_rfl) (by kernel_rfl) rfl (fun _ _ => by simp) b43

/-! why -/
@[simp] def whE (d : Ro × List Du × Int × Cl) : List V := [.agg d.1.row, .sl 3 (d.2.1.map Du.row), .int .i64 d.2.2.1, .agg d.2.2.2.row]
theorem whE_inj (a b : Ro × List Du × Int × Cl) (h : whE a = whE b) : a = b := by
  obtain ⟨a1, a2, a3, a4⟩ := a; obtain ⟨b1, b2, b3, b4⟩ := b
  simp only [whE, List.cons.injEq, V.agg.injEq, V.sl.injEq, V.int.injEq, true_and, and_true] at h
  rw [Ro.row_inj _ _ h.1, mapRow_inj Du.row_inj h.2.1, h.2.2.1, Cl.row_inj _ _ h.2.2.2]
theorem whE_dec (r : Ro) (l : List Du) (n : Int) (c : Cl) : decC whE [.agg [.sl 3 (r.ppl.map Pn.row), .int .i64 r.lng, .int .i64 r.rst, .int .i64 r.win, .int .i64 r.tot, .int .i64 r.rcn], .sl 3 (l.map Du.row), .int .i64 n, .agg [.int .i64 c.a, .int .i64 c.b, .int .i64 c.craft, .bool c.water]] = (r, l, n, c) := decC_eq whE_inj (r, l, n, c)
structure WhP (d : Ro × List Du × Int × Cl) : Prop where
  fit : d.1.Fit
  len : d.2.1.length ≤ 60
  beg : ∀ x ∈ d.2.1, 0 ≤ x.a ∧ x.a ≤ 9223372036854775807
  n : 0 ≤ d.2.2.1 ∧ d.2.2.1 ≤ d.1.ppl.length - 1
  call : callW d.2.2.2 = true
theorem WhP.of {r : Ro} {l : List Du} {n : Int} {c : Cl} (h : (chkEW srtD r l).2 = 0) (hn : 0 ≤ n ∧ n ≤ r.ppl.length - 1) (hc : callW c = true) : WhP (r, l, n, c) := by
  unfold chkEW at h
  split at h
  · rename_i h1
    split at h
    · simp at h
    · rename_i h2
      split at h
      · simp at h
      · rename_i h3
        refine ⟨Ro.ok_iff.1 h1, by simpa using h2, ?_, hn, hc⟩
        have hb : badDuW srtD r l = -1 := by
          apply Classical.byContradiction
          intro hne
          obtain ⟨k, _, e, _⟩ := idxZ_some hne
          exact h3 (by rw [badDuW, e]; omega)
        have hall : ∀ j, j < l.length → duOkW srtD r l j = true := by
          intro j hj
          apply Classical.byContradiction
          intro hne
          have : idxZ (List.range l.length) (fun i => !duOkW srtD r l i) ≠ -1 := by
            intro e
            have h0 := idxZ_any (List.range l.length) (fun i => !duOkW srtD r l i)
            rw [e, decide_eq_false (by omega)] at h0
            have := (List.any_eq_false.1 h0.symm) j (List.mem_range.2 hj)
            simp at this; exact hne this
          exact this hb
        have := duOkW_begs (r := r) (Nat.le_refl l.length) hall
        rwa [List.take_length] at this
  · simp at h
noncomputable abbrev whyS : PSpec := mkP whE WhP fun d => ints (whyW srtD d.1 d.2.1 d.2.2.1 d.2.2.2)
theorem bit_of {x k : Int} (hx : 0 ≤ x ∧ x ≤ 255) (hk : 0 ≤ k ∧ k ≤ 7) : bitw .and .i64 (shrV .i64 x k) 1 = if bit1 x k = true then 1 else 0 := by
  obtain ⟨a, rfl⟩ : ∃ a : Nat, x = a := ⟨x.toNat, by omega⟩
  obtain ⟨n, rfl⟩ : ∃ n : Nat, k = n := ⟨k.toNat, by omega⟩
  have h : sr a n < 9223372036854775808 := Nat.lt_of_le_of_lt (Nat.shiftRight_le a n) (by omega)
  rw [bit_shr a n (by omega), show (1 : Int) = ((1 : Nat) : Int) from rfl, bit_and h (by omega), bit_one]
  unfold bit1
  simp only [Int.toNat_natCast]
  split <;> rfl
noncomputable abbrev E44 : Env := { P := Try.prog, fn := tbl [(56, .pure ofS), (57, .pure brkS)], own := [], key := 4400, nt := 50 }
theorem b44 : PureBody E44 [] Try.f44 whyS := by
  refine pb ?_
  rintro ⟨r, l, n, c⟩ ⟨hf, hl, hb, hn, hcall⟩
  simp only at hf hl hb hn hcall
  obtain ⟨k, rfl⟩ : ∃ k : Nat, n = k := ⟨n.toNat, by omega⟩
  have hk : k < r.ppl.length := by omega
  have hki : (k : Int) < r.ppl.length := by omega
  obtain ⟨p, hp⟩ : ∃ p, r.ppl[k]? = some p := ⟨_, List.getElem?_eq_getElem hk⟩
  have hp' : r.ppl[k] = p := (List.getElem?_eq_some_iff.1 hp).2
  have hpa : pnAt r k = p := by simp [pnAt, List.getD, hp]
  have hpo := hf.p p (by rw [← hp']; exact List.getElem_mem hk)
  have hrat : 0 ≤ p.rat ∧ p.rat ≤ 255 := by
    simp only [Pn.ok, Bool.and_eq_true, decide_eq_true_eq] at hpo; exact hpo.1.1
  have hcr : 0 ≤ c.craft ∧ c.craft ≤ 7 := by
    simp only [callW, Bool.and_eq_true, decide_eq_true_eq] at hcall; exact hcall.2
  have hst : strW c.a c.b = true := by
    simp only [callW, Bool.and_eq_true] at hcall; exact hcall.1
  have hbit := bit_of hrat hcr
  have hsb := strW_beg hst
  have hll : l.length ≤ 1000000 := by omega
  have hBg : Beg (own l k ++ [⟨k, c.a, c.b⟩]) := ⟨by have := own_len l k; simp; omega, fun x hx => by
    rcases List.mem_append.1 hx with h | h
    · exact hb x (own_mem.1 h).1
    · exact List.mem_singleton.1 h ▸ hsb⟩
  have hW : whyW srtD r l k c = (if bit1 p.rat c.craft = true then [] else [1]) ++ (if c.water = true ∧ p.dive < c.b then [2] else []) ++ brkW srtD r (own l k) ⟨k, c.a, c.b⟩ := by unfold whyW; rw [hpa]
  have hBl : (brkW srtD r (own l k) ⟨k, c.a, c.b⟩).length ≤ 4 := by
    unfold brkW
    simp only [List.length_append]
    split <;> split <;> split <;> split <;> simp
  generalize hB : brkW srtD r (own l k) ⟨k, c.a, c.b⟩ = B at *
  have hre := reE_dec r (own l k) ⟨k, c.a, c.b⟩
  simp only at hre
  have hd : (decide (p.dive < c.b)) = decide (p.dive < c.b) := rfl
  cases h1 : bit1 p.rat c.craft <;> rw [h1] at hbit hW
  all_goals
    cases h2 : c.water <;> rw [h2] at hW
    · simp at hW
      simp -dsimp [Try.f44, E44, Ro.row, pplV, Cl.row]
      repeat' (first | omega | (simp -dsimp [E44, ri, cellp, ints, Ro.row, pplV, Cl.row, Pn.row, bkRow, hk, hki, hp, hp', hbit, hll, ofE_dec, hre, hBg, hB, hBl, h2, hW]) | (refine Also.intro ?_ fun _ => ?_) | (refine Hold.intro fun _ => ?_) | (refine And.intro ?_ ?_))
    · by_cases h3 : p.dive < c.b
      · simp [h3] at hW
        simp -dsimp [Try.f44, E44, Ro.row, pplV, Cl.row]
        repeat' (first | omega | (simp -dsimp [E44, ri, cellp, ints, Ro.row, pplV, Cl.row, Pn.row, bkRow, hk, hki, hp, hp', hbit, hll, ofE_dec, hre, hBg, hB, hBl, h2, h3, hW]) | (refine Also.intro ?_ fun _ => ?_) | (refine Hold.intro fun _ => ?_) | (refine And.intro ?_ ?_))
      · simp [h3] at hW
        have h3' : (p.dive < c.b) = False := eq_false h3
        simp -dsimp [Try.f44, E44, Ro.row, pplV, Cl.row]
        repeat' (first | omega | (simp -dsimp [E44, ri, cellp, ints, Ro.row, pplV, Cl.row, Pn.row, bkRow, hk, hki, hp, hp', hbit, hll, ofE_dec, hre, hBg, hB, hBl, h2, h3', hW]) | (refine Also.intro ?_ fun _ => ?_) | (refine Hold.intro fun _ => ?_) | (refine And.intro ?_ ?_))
theorem ok44 : FnOK Try.prog 44 (.pure whyS) := pure_fn (E := E44) rfl (.cons ok56 (.cons ok57 .nil)) (ok := []) (fn := Try.f44) (by kernel_rfl) (by kernel_rfl) (by kernel_rfl) (by kernel_rfl) rfl (fun _ _ => by simp) b44
end Go.Sx
end
section
/- Crew: Why, Until. No conditions. -/
set_option linter.unusedSimpArgs false
set_option linter.unusedSectionVars false
set_option maxRecDepth 100000
set_option maxHeartbeats 2000000
namespace Go.Sx
open Go.Proofs
attribute [local irreducible] HLe

noncomputable def whyO (r : Ro) (l : List Du) (n : Int) (c : Cl) : List Int × Int :=
  if chk2W srtD r l (withinB n 0 (r.ppl.length - 1) && callW c) = 0 then (whyW srtD r l n c, 0) else ([], chk2W srtD r l (withinB n 0 (r.ppl.length - 1) && callW c))
structure WyP (d : Ro × List Du × Int × Cl) : Prop where
  p : d.1.ppl.length ≤ 1000000
  n : d.2.1.length ≤ 1000000
noncomputable abbrev WhyS : PSpec := mkP whE WyP fun d => .tup [ints (whyO d.1 d.2.1 d.2.2.1 d.2.2.2).1, .int .i64 (whyO d.1 d.2.1 d.2.2.1 d.2.2.2).2]
theorem chk2_zero {r : Ro} {l : List Du} {b : Bool} (h : chk2W srtD r l b = 0) : (chkEW srtD r l).2 = 0 ∧ b = true := by
  unfold chk2W at h
  split at h
  · split at h
    · exact ⟨by assumption, by assumption⟩
    · omega
  · exact absurd h (by assumption)
noncomputable abbrev E16 : Env := { P := Try.prog, fn := tbl [(41, .pure ckS), (42, .pure withinS), (43, .pure callS), (44, .pure whyS)], own := [], key := 1600, nt := 32 }
theorem b16 : PureBody E16 [] Try.f16 WhyS := by
  refine pb ?_
  rintro ⟨r, l, n, c⟩ ⟨hp, hl⟩
  simp only at hp hl
  have hwp : IntKind.wrap .i64 ((r.ppl.length : Int) - 1) = r.ppl.length - 1 := wrap_id (by omega) (by omega)
  have hK : whyO r l n c = if chk2W srtD r l (withinB n 0 (r.ppl.length - 1) && callW c) = 0 then (whyW srtD r l n c, 0) else ([], chk2W srtD r l (withinB n 0 (r.ppl.length - 1) && callW c)) := rfl
  have hCP : ChP (r, l) := ⟨hp, hl⟩
  cases h1 : withinB n 0 (r.ppl.length - 1) <;> rw [h1] at hK
  · generalize he : chk2W srtD r l (false && callW c) = e at hK
    have he1 : chk2W srtD r l false = e := he
    have h0 : ¬ e = 0 := fun h => by have := (chk2_zero (he1.trans h)).2; cases this
    have h0' : (e = 0) = False := eq_false h0
    rw [if_neg h0] at hK
    simp -dsimp [Try.f16, E16, Ro.row, pplV, Cl.row]
    repeat' (first | omega | (simp -dsimp [E16, ri, cellp, ints, Ro.row, pplV, Cl.row, ckE_dec, hCP, hwp, h1, he1, h0', hK]) | (refine Also.intro ?_ fun _ => ?_) | (refine Hold.intro fun _ => ?_) | (refine And.intro ?_ ?_))
  · generalize h2 : callW c = b at hK
    generalize he : chk2W srtD r l (true && b) = e at hK
    have he1 : chk2W srtD r l b = e := he
    by_cases h0 : e = 0
    · subst h0
      rw [if_pos rfl] at hK
      obtain ⟨z1, z2⟩ := chk2_zero he1
      subst z2
      have hn : 0 ≤ n ∧ n ≤ r.ppl.length - 1 := by simpa [withinB] using h1
      have hW := WhP.of z1 hn h2
      simp -dsimp [Try.f16, E16, Ro.row, pplV, Cl.row]
      repeat' (first | omega | (simp -dsimp [E16, ri, cellp, ints, Ro.row, pplV, Cl.row, ckE_dec, clE_dec, whE_dec, hCP, hwp, h1, h2, he1, hW, hK]) | (refine Also.intro ?_ fun _ => ?_) | (refine Hold.intro fun _ => ?_) | (refine And.intro ?_ ?_))
    · rw [if_neg h0] at hK
      have h0' : (e = 0) = False := eq_false h0
      simp -dsimp [Try.f16, E16, Ro.row, pplV, Cl.row]
      repeat' (first | omega | (simp -dsimp [E16, ri, cellp, ints, Ro.row, pplV, Cl.row, ckE_dec, clE_dec, hCP, hwp, h1, h2, he1, h0', hK]) | (refine Also.intro ?_ fun _ => ?_) | (refine Hold.intro fun _ => ?_) | (refine And.intro ?_ ?_))
theorem ok16 : FnOK Try.prog 16 (.pure WhyS) := pure_fn (E := E16) rfl (.cons ok41 (.cons ok42 (.cons ok43 (.cons ok44 .nil)))) (ok := []) (fn := Try.f16) (by kernel_rfl) (by kernel_rfl) (by kernel_rfl) (by kernel_rfl) rfl (fun _ _ => by simp) b16

/-! until -/
@[simp] def utE (d : Ro × List Du × Int × Int) : List V := [.agg d.1.row, .sl 3 (d.2.1.map Du.row), .int .i64 d.2.2.1, .int .i64 d.2.2.2]
theorem utE_inj (a b : Ro × List Du × Int × Int) (h : utE a = utE b) : a = b := by
  obtain ⟨a1, a2, a3, a4⟩ := a; obtain ⟨b1, b2, b3, b4⟩ := b
  simp only [utE, List.cons.injEq, V.agg.injEq, V.sl.injEq, V.int.injEq, true_and, and_true] at h
  rw [Ro.row_inj _ _ h.1, mapRow_inj Du.row_inj h.2.1, h.2.2.1, h.2.2.2]
theorem utE_dec (r : Ro) (l : List Du) (n a : Int) : decC utE [.agg [.sl 3 (r.ppl.map Pn.row), .int .i64 r.lng, .int .i64 r.rst, .int .i64 r.win, .int .i64 r.tot, .int .i64 r.rcn], .sl 3 (l.map Du.row), .int .i64 n, .int .i64 a] = (r, l, n, a) := decC_eq utE_inj (r, l, n, a)
def untN (r : Ro) (a : Int) : Nat := (min (a + r.lng) 2000 - a).toNat
noncomputable def untO (r : Ro) (l : List Du) (n a : Int) : Int × Int :=
  if chk2W srtD r l (withinB n 0 (r.ppl.length - 1) && withinB a 0 2000) = 0 then (if untW srtD r (own l n) n a (untN r a) = 0 then (0, 3) else (untW srtD r (own l n) n a (untN r a), 0)) else (0, chk2W srtD r l (withinB n 0 (r.ppl.length - 1) && withinB a 0 2000))
structure UtP (d : Ro × List Du × Int × Int) : Prop where
  p : d.1.ppl.length ≤ 1000000
  n : d.2.1.length ≤ 1000000
noncomputable abbrev untS : PSpec := mkP utE UtP fun d => .tup [.int .i64 (untO d.1 d.2.1 d.2.2.1 d.2.2.2).1, .int .i64 (untO d.1 d.2.1 d.2.2.1 d.2.2.2).2]
noncomputable abbrev E35 : Env := { P := Try.prog, fn := tbl [(41, .pure ckS), (42, .pure withinS), (38, .pure timeS), (56, .pure ofS), (57, .pure brkS)], own := [], key := 3500, nt := 52 }
theorem b35 : PureBody E35 [] Try.f35 untS := by
  refine pb ?_
  rintro ⟨r, l, n, a⟩ ⟨hp, hl⟩
  simp only at hp hl
  have hwp : IntKind.wrap .i64 ((r.ppl.length : Int) - 1) = r.ppl.length - 1 := wrap_id (by omega) (by omega)
  have hK : untO r l n a = if chk2W srtD r l (withinB n 0 (r.ppl.length - 1) && withinB a 0 2000) = 0 then (if untW srtD r (own l n) n a (untN r a) = 0 then (0, 3) else (untW srtD r (own l n) n a (untN r a), 0)) else (0, chk2W srtD r l (withinB n 0 (r.ppl.length - 1) && withinB a 0 2000)) := rfl
  have hCP : ChP (r, l) := ⟨hp, hl⟩
  cases h1 : withinB n 0 (r.ppl.length - 1) <;> rw [h1] at hK
  · generalize he : chk2W srtD r l (false && withinB a 0 2000) = e at hK
    have he1 : chk2W srtD r l false = e := he
    have h0 : ¬ e = 0 := fun h => by have := (chk2_zero (he1.trans h)).2; cases this
    have h0' : (e = 0) = False := eq_false h0
    rw [if_neg h0] at hK
    simp -dsimp [Try.f35, E35, Ro.row, pplV]
    repeat' (first | omega | (simp -dsimp [E35, ri, cellp, ints, Ro.row, pplV, ckE_dec, hCP, hwp, h1, he1, h0', hK]) | (refine Also.intro ?_ fun _ => ?_) | (refine Hold.intro fun _ => ?_) | (refine And.intro ?_ ?_))
  generalize h2 : withinB a 0 2000 = b at hK
  generalize he : chk2W srtD r l (true && b) = e at hK
  have he1 : chk2W srtD r l b = e := he
  by_cases h0 : e = 0
  case neg =>
    rw [if_neg h0] at hK
    have h0' : (e = 0) = False := eq_false h0
    simp -dsimp [Try.f35, E35, Ro.row, pplV]
    repeat' (first | omega | (simp -dsimp [E35, ri, cellp, ints, Ro.row, pplV, ckE_dec, hCP, hwp, h1, h2, he1, h0', hK]) | (refine Also.intro ?_ fun _ => ?_) | (refine Hold.intro fun _ => ?_) | (refine And.intro ?_ ?_))
  subst h0
  rw [if_pos rfl] at hK
  obtain ⟨z1, z2⟩ := chk2_zero he1
  subst z2
  have hn : 0 ≤ n ∧ n ≤ r.ppl.length - 1 := by simpa [withinB] using h1
  have ha : 0 ≤ a ∧ a ≤ 2000 := by simpa [withinB] using h2
  obtain ⟨hf, hl60, hbeg, _, _⟩ := WhP.of (c := ⟨0, 1, 0, false⟩) z1 hn (by decide)
  simp only at hf hl60 hbeg
  have hlng := hf.lng
  have hw1 : IntKind.wrap .i64 (a + r.lng) = a + r.lng := wrap_id (by omega) (by omega)
  obtain ⟨K, hKn⟩ : ∃ K : Nat, untN r a = K := ⟨_, rfl⟩
  have hKi : (K : Int) = min (a + r.lng) 2000 - a := by rw [← hKn, untN]; omega
  have hmin : (if (2000 : Int) < a + r.lng then 2000 else a + r.lng) = a + K := by
    split <;> omega
  rw [hKn] at hK
  simp -dsimp [Try.f35, E35, Ro.row, pplV]
  repeat' (first | omega | (simp -dsimp [E35, ri, cellp, ints, Ro.row, pplV, ckE_dec, ofE_dec, hCP, hwp, hl, h1, h2, he1, hw1, bkRow]) | (refine Also.intro ?_ fun _ => ?_) | (refine Hold.intro fun _ => ?_) | (refine And.intro ?_ ?_))
  refine awp_loop [38, 39, 40, 43, 44, 45, 46, 47, 48, 49, 50, 51, 8, 9, 41, 42, 12] (fun j : { j : Nat // j ≤ K ∧ untW srtD r (own l n) n a K = untW srtD r (own l n) n a j } => [(12, (true, .int .i64 (a + j.1)))]) (fun _ => hps [(3511, { base := 0, blks := [{ z := 7, els := [bkRow r (own l n)], ty := 102 }] }), (3504, { base := 0, blks := [{ z := 6, els := [r.row], ty := 33 }] })] noH) (fun j => j.1) ⟨K, Nat.le_refl _, rfl⟩ ?_ ?_ ?_
  · simp [okAll, okv, hmin]
  · exact (by (try simp -dsimp only [hpush_noH, hpush_hps, hps_over]); refine hle_hps ?_; simp -dsimp [allK, bkRow, Ro.row, pplV]; repeat' (first | (refine And.intro ?_ ?_) | (refine sLe.same ?_ ?_ <;> (simp; done)) | (refine sLe.clear ?_ ?_ <;> (first | (simp; done) | (simp; omega))) | (refine sLe.drop 1 ?_ ?_ ?_ <;> (simp; done))))
  rintro ⟨j, hj, hU⟩
  dsimp only
  rw [hU] at hK
  rcases j with _ | j
  · have hK : untO r l n a = (0, 3) := hK
    simp -dsimp []
    repeat' (first | omega | (simp -dsimp [E35, ri, cellp, ints, hK]) | (refine Also.intro ?_ fun _ => ?_) | (refine Hold.intro fun _ => ?_) | (refine And.intro ?_ ?_))
  have hBg : Beg (own l n ++ [⟨n, a, a + ((j + 1 : Nat) : Int)⟩]) := ⟨by have := own_len l n; simp; omega, fun x hx => by
    rcases List.mem_append.1 hx with h | h
    · exact hbeg x (own_mem.1 h).1
    · have := List.mem_singleton.1 h; subst this; simp only; omega⟩
  have hre := reE_dec r (own l n) ⟨n, a, a + ((j + 1 : Nat) : Int)⟩
  simp only at hre
  have hwj : IntKind.wrap .i64 (a + ((j + 1 : Nat) : Int) - 1) = a + (j : Nat) := by rw [wrap_id (by omega) (by omega)]; omega
  have hlt : a < a + ((j + 1 : Nat) : Int) := by omega
  have hU2 : untW srtD r (own l n) n a (j + 1) = if (brkW srtD r (own l n) ⟨n, a, a + (j + 1 : Nat)⟩).isEmpty = true then a + (j + 1 : Nat) else untW srtD r (own l n) n a j := rfl
  generalize hto : a + ((j + 1 : Nat) : Int) = to at *
  generalize hB : brkW srtD r (own l n) ⟨n, a, to⟩ = B at *
  cases B with
  | nil =>
    have hU2 : untW srtD r (own l n) n a (j + 1) = to := hU2
    rw [hU2, if_neg (by omega)] at hK
    simp -dsimp [hlt]
    repeat' (first | omega | (simp -dsimp [E35, ri, cellp, ints, hlt, Ro.row, pplV, bkRow, Du.row, hre, hBg, hB, hK]) | (refine Also.intro ?_ fun _ => ?_) | (refine Hold.intro fun _ => ?_) | (refine And.intro ?_ ?_))
  | cons x xs =>
    rw [if_neg (by simp)] at hU2
    have hne : ((xs.length : Int) + 1 = 0) = False := eq_false (by omega)
    simp -dsimp [hlt]
    repeat' (first | omega | (simp -dsimp [E35, ri, cellp, ints, hlt, Ro.row, pplV, bkRow, Du.row, hre, hBg, hB, hne, hwj]) | (refine Also.intro ?_ fun _ => ?_) | (refine Hold.intro fun _ => ?_) | (refine And.intro ?_ ?_))
    refine ⟨j, tle_chain rfl ?_, HLe.refl _, ⟨by omega, by rw [hU, hU2]⟩, by omega⟩
    simp [okAll, okv]
theorem ok35 : FnOK Try.prog 35 (.pure untS) := pure_fn (E := E35) rfl (.cons ok41 (.cons ok42 (.cons ok38 (.cons ok56 (.cons ok57 .nil))))) (ok := []) (fn := Try.f35) (by kernel_rfl) (by kernel_rfl) (by kernel_rfl) (by kernel_rfl) rfl (fun _ _ => by simp) b35
end Go.Sx
end
