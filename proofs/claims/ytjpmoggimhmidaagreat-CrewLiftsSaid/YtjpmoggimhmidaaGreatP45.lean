/- A part of a proof; no conditions. -/
import Derived.Test.YtjpmoggimhmidaaGreatP43
import Derived.Test.YtjpmoggimhmidaaGreatP44
set_option linter.unusedSimpArgs false
set_option linter.unusedVariables false
set_option linter.unusedSectionVars false
section
/- Crew: what is worked, the rules that a duty breaks. No conditions. -/
set_option linter.unusedSimpArgs false
set_option linter.unusedSectionVars false
set_option maxRecDepth 100000
set_option maxHeartbeats 2000000
namespace Go.Sx
open Go.Proofs
attribute [local irreducible] HLe

def swS (to : Int) (l : List Du) (x : Int) : Nat → Int × Int
  | 0 => (x, 0)
  | k + 1 => if max (duAt l k).a (swS to l x k).1 < min (duAt l k).b to then (min (duAt l k).b to, wr ((swS to l x k).2 + wr (min (duAt l k).b to - max (duAt l k).a (swS to l x k).1))) else swS to l x k
theorem swS_eq (to : Int) (l : List Du) (x : Int) : ∀ k, k ≤ l.length → swpW to (l.drop k) (swS to l x k).1 (swS to l x k).2 = swpW to l x 0
  | 0, _ => rfl
  | k + 1, hk => by
    have ih := swS_eq to l x k (by omega)
    rw [List.drop_eq_getElem_cons (show k < l.length by omega), swpW] at ih
    have e : l[k]'(by omega) = duAt l k := by simp [duAt, List.getD, show k < l.length by omega]
    rw [e] at ih
    rw [← ih, swS]
    split <;> rfl
theorem swS_end (to : Int) (l : List Du) (x : Int) : (swS to l x l.length).2 = swpW to l x 0 := by
  have := swS_eq to l x l.length (Nat.le_refl _)
  rw [List.drop_length] at this
  exact this
@[simp] def wkE (d : List Du × Int × Int) : List V := [.sl 3 (d.1.map Du.row), .int .i64 d.2.1, .int .i64 d.2.2]
theorem wkE_inj (a b : List Du × Int × Int) (h : wkE a = wkE b) : a = b := by
  obtain ⟨a1, a2, a3⟩ := a; obtain ⟨b1, b2, b3⟩ := b
  simp only [wkE, List.cons.injEq, V.sl.injEq, V.int.injEq, true_and, and_true] at h
  rw [mapRow_inj Du.row_inj h.1, h.2.1, h.2.2]
theorem wkE_dec (l : List Du) (x y : Int) : decC wkE [.sl 3 (l.map Du.row), .int .i64 x, .int .i64 y] = (l, x, y) := decC_eq wkE_inj (l, x, y)
/-- Duties that can be sorted. -/
structure Beg (l : List Du) : Prop where
  n : l.length ≤ 1000000
  b : ∀ d ∈ l, 0 ≤ d.a ∧ d.a ≤ 9223372036854775807
noncomputable abbrev wkS : PSpec := mkP wkE (fun d => d.1 ≠ [] ∧ Beg d.1) fun d => .int .i64 (wkW srtD d.1 d.2.1 d.2.2)
noncomputable abbrev E84 : Env := { P := Tryz.prog, fn := tbl [(51, .heap cloS), (111, .heap duSortS)], own := [], key := 8400, nt := 42 }
theorem b84 : PureBody E84 [] Tryz.f84 wkS := by
  refine pb ?_
  rintro ⟨l, x, y⟩ ⟨hne, hl, hb⟩
  simp only at hne hl hb
  have hn0 : 0 < l.length := List.length_pos_iff.2 hne
  have hgo : duSortS.go [.bsl 5105 0 l.length, .fn 112 []] (hps [(5105, { base := 0, blks := [{ z := 3, els := l.map Du.row, ty := 79 }] })] noH) = ⟨True, .tup [], hps [(5105, { base := 0, blks := [{ z := 3, els := (srtD l).map Du.row, ty := 79 }] })] noH⟩ := by
    rw [duSort_go (l := l) (cl := true) hb rfl rfl (by omega) (by omega)]
    simp
  have hsl := srtD_len hb
  have hw : wkW srtD l x y = (swS y (srtD l) x (srtD l).length).2 := (swS_end _ _ _).symm
  simp -dsimp [Tryz.f84, E84, cloS_go]
  repeat' (first | omega | (simp -dsimp [E84, ri, cellp, ints, cloS_go, hl, hgo, hne]) | (refine Also.intro ?_ fun _ => ?_) | (refine Hold.intro fun _ => ?_) | (refine And.intro ?_ ?_))
  generalize srtD l = L at *
  refine awp_loop [20, 21, 22, 9, 23, 24, 25, 26, 27, 28, 29, 30, 10, 11, 31, 32, 33, 34, 35, 36, 37, 38, 6, 39, 7, 40, 19] (fun k : { k : Nat // k ≤ L.length } => [(19, (true, .int .i64 k.1)), (7, (true, .int .i64 (swS y L x k.1).1)), (6, (true, .int .i64 (swS y L x k.1).2))]) (fun k => hps [(8409, { base := k.1, blks := [] }), (5105, { base := 0, blks := [{ z := 3, els := L.map Du.row, ty := 79 }] })] noH) (fun k => L.length - k.1) ⟨0, by omega⟩ ?_ ?_ ?_
  · simp [okAll, okv, swS]
  · exact (by (try simp -dsimp only [hpush_noH, hpush_hps, hps_over]); refine hle_hps ?_; simp -dsimp [allK, ]; repeat' (first | (refine And.intro ?_ ?_) | (refine sLe.same ?_ ?_ <;> (simp; done)) | (refine sLe.clear ?_ ?_ <;> (first | (simp; done) | (simp; omega))) | (refine sLe.drop 1 ?_ ?_ ?_ <;> (simp; done))))
  rintro ⟨k, hk⟩
  dsimp only
  by_cases hk1 : k < L.length
  · have hki : (k : Int) < l.length := by omega
    have wk : IntKind.wrap .i64 ((k : Int) + 1) = (k + 1 : Nat) := wrap_id (by omega) (by omega)
    obtain ⟨d, hd⟩ : ∃ d, L[k]? = some d := ⟨_, List.getElem?_eq_getElem hk1⟩
    have hd' : L[k] = d := get_of hd hk1
    have hda : duAt L k = d := by simp [duAt, List.getD, hd]
    have hS : swS y L x (k + 1) = if max d.a (swS y L x k).1 < min d.b y then (min d.b y, wr ((swS y L x k).2 + wr (min d.b y - max d.a (swS y L x k).1))) else swS y L x k := by rw [swS, hda]
    generalize swS y L x k = S at *
    obtain ⟨s1, s2⟩ := S
    dsimp only at hS ⊢
    have hM : (if d.a < s1 then s1 else d.a) = max d.a s1 := by omega
    have hN : (if y < d.b then y else d.b) = min d.b y := by omega
    generalize max d.a s1 = M at *
    generalize min d.b y = N at *
    by_cases hMN : M < N
    · rw [if_pos hMN] at hS
      simp -dsimp [hki]
      repeat' (first | omega | (simp -dsimp [E84, ri, cellp, ints, hki, hk1, hd, hd', hsl, wk, Du.row, hM, hN, hMN]) | (refine Also.intro ?_ fun _ => ?_) | (refine Hold.intro fun _ => ?_) | (refine And.intro ?_ ?_))
      refine ⟨k + 1, tle_chain rfl ?_, ?_, by omega, by omega⟩
      · simp [okAll, okv, hS, wk]
      · exact (by (try simp -dsimp only [hpush_noH, hpush_hps, hps_over]); refine hle_hps ?_; simp -dsimp [allK, ]; repeat' (first | (refine And.intro ?_ ?_) | (refine sLe.same ?_ ?_ <;> (simp; done)) | (refine sLe.clear ?_ ?_ <;> (first | (simp; done) | (simp; omega))) | (refine sLe.drop 1 ?_ ?_ ?_ <;> (simp; done))))
    · rw [if_neg hMN] at hS
      simp -dsimp [hki]
      repeat' (first | omega | (simp -dsimp [E84, ri, cellp, ints, hki, hk1, hd, hd', hsl, wk, Du.row, hM, hN, hMN]) | (refine Also.intro ?_ fun _ => ?_) | (refine Hold.intro fun _ => ?_) | (refine And.intro ?_ ?_))
      refine ⟨k + 1, tle_chain rfl ?_, ?_, by omega, by omega⟩
      · simp [okAll, okv, hS, wk]
      · exact (by (try simp -dsimp only [hpush_noH, hpush_hps, hps_over]); refine hle_hps ?_; simp -dsimp [allK, ]; repeat' (first | (refine And.intro ?_ ?_) | (refine sLe.same ?_ ?_ <;> (simp; done)) | (refine sLe.clear ?_ ?_ <;> (first | (simp; done) | (simp; omega))) | (refine sLe.drop 1 ?_ ?_ ?_ <;> (simp; done))))
  · have hkn : ¬ (k : Int) < l.length := by omega
    have hke : k = L.length := by omega
    subst hke
    simp -dsimp [hkn]
    repeat' (first | omega | (simp -dsimp [E84, ri, cellp, ints, hkn, hw]) | (refine Also.intro ?_ fun _ => ?_) | (refine Hold.intro fun _ => ?_) | (refine And.intro ?_ ?_))
theorem ok84 : FnOK Tryz.prog 84 (.pure wkS) := pure_fn (E := E84) rfl (.cons ok51 (.cons ok111 .nil)) (ok := []) (fn := Tryz.f84) (by kernel_rfl) (by kernel_rfl) (by kernel_rfl) (by kernel_rfl) rfl (fun _ _ => by simp) b84

/-! no window with too much -/
@[simp] def toE (d : Ro × List Du × List Du) : List V := [.agg (bkRow d.1 d.2.1), .sl 3 (d.2.2.map Du.row)]
theorem toE_inj (a b : Ro × List Du × List Du) (h : toE a = toE b) : a = b := by
  obtain ⟨a1, a2, a3⟩ := a; obtain ⟨b1, b2, b3⟩ := b
  simp only [toE, List.cons.injEq, V.agg.injEq, V.sl.injEq, true_and, and_true] at h
  obtain ⟨h1, h2⟩ := h
  obtain ⟨rfl, rfl⟩ := bkRow_inj h1
  rw [mapRow_inj Du.row_inj h2]
theorem toE_dec (r : Ro) (o l : List Du) : decC toE [.agg [.sl 3 (r.ppl.map Pn.row), .int .i64 r.lng, .int .i64 r.rst, .int .i64 r.win, .int .i64 r.tot, .int .i64 r.rcn, .sl 3 (o.map Du.row)], .sl 3 (l.map Du.row)] = (r, o, l) := decC_eq toE_inj (r, o, l)
noncomputable abbrev totS : PSpec := mkP toE (fun d => Beg d.2.2) fun d => .bool (totW srtD d.2.2 d.1.win d.1.tot)
noncomputable def totT (r : Ro) (l : List Du) (d : Du) : Bool := decide (wkW srtD l d.a (wr (d.a + r.win)) ≤ r.tot) && decide (wkW srtD l (wr (d.b - r.win)) d.b ≤ r.tot)
noncomputable abbrev E57 : Env := { P := Tryz.prog, fn := tbl [(84, .pure wkS)], own := [], key := 5700, nt := 44 }
theorem b57 : PureBody E57 [] Tryz.f57 totS := by
  refine pb ?_
  rintro ⟨r, o, l⟩ hB
  have hB : Beg l := hB
  have hl := hB.n
  have hT : totW srtD l r.win r.tot = l.all (totT r l) := rfl
  simp -dsimp [Tryz.f57, E57, bkRow]
  refine awp_loop [10, 11, 12, 6, 13, 14, 15, 16, 17, 18, 19, 20, 21, 22, 23, 24, 25, 26, 27, 28, 29, 30, 31, 32, 33, 34, 35, 36, 37, 38, 39, 40, 41, 42, 4, 43, 9] (fun k : { k : Nat // k ≤ l.length ∧ ∀ j (h : j < l.length), j < k → totT r l l[j] = true } => [(9, (true, .int .i64 k.1))]) (fun k => hps [(5706, { base := k.1, blks := [] }), (5702, { base := 0, blks := [{ z := 7, els := [bkRow r o], ty := 83 }] })] noH) (fun k => l.length - k.1) ⟨0, by omega, fun _ _ h => by omega⟩ ?_ ?_ ?_
  · simp [okAll, okv]
  · exact (by (try simp -dsimp only [hpush_noH, hpush_hps, hps_over]); refine hle_hps ?_; simp -dsimp [allK, bkRow]; repeat' (first | (refine And.intro ?_ ?_) | (refine sLe.same ?_ ?_ <;> (simp; done)) | (refine sLe.clear ?_ ?_ <;> (first | (simp; done) | (simp; omega))) | (refine sLe.drop 1 ?_ ?_ ?_ <;> (simp; done))))
  rintro ⟨k, hk, hall⟩
  dsimp only
  by_cases hk1 : k < l.length
  · have hki : (k : Int) < l.length := by omega
    have wk : IntKind.wrap .i64 ((k : Int) + 1) = (k + 1 : Nat) := wrap_id (by omega) (by omega)
    have hne : l ≠ [] := by intro e; rw [e] at hk1; simp at hk1
    obtain ⟨d, hd⟩ : ∃ d, l[k]? = some d := ⟨_, List.getElem?_eq_getElem hk1⟩
    have hd' : l[k] = d := get_of hd hk1
    have hTd : totT r l d = (decide (wkW srtD l d.a (wr (d.a + r.win)) ≤ r.tot) && decide (wkW srtD l (wr (d.b - r.win)) d.b ≤ r.tot)) := rfl
    cases hw : totT r l d
    · have hno : totW srtD l r.win r.tot = false := by
        rw [hT, List.all_eq_false]; exact ⟨d, List.mem_of_getElem? hd, by rw [hw]; simp⟩
      rw [hw] at hTd
      by_cases h1 : wkW srtD l d.a (wr (d.a + r.win)) ≤ r.tot
      · have h2 : ¬ wkW srtD l (wr (d.b - r.win)) d.b ≤ r.tot := by simpa [h1] using hTd
        have h1' : ¬ r.tot < wkW srtD l d.a (IntKind.wrap .i64 (d.a + r.win)) := by exact Int.not_lt.2 h1
        have h2' : r.tot < wkW srtD l (IntKind.wrap .i64 (d.b - r.win)) d.b := by exact Int.not_le.1 h2
        simp -dsimp [hki]
        repeat' (first | omega | (simp -dsimp [E57, ri, cellp, ints, hki, hk1, hd, hd', hl, wk, hB, hne, Du.row, bkRow, wkE_dec, h1', h2', hno]) | (refine Also.intro ?_ fun _ => ?_) | (refine Hold.intro fun _ => ?_) | (refine And.intro ?_ ?_))
      · have h1' : r.tot < wkW srtD l d.a (IntKind.wrap .i64 (d.a + r.win)) := by exact Int.not_le.1 h1
        simp -dsimp [hki]
        repeat' (first | omega | (simp -dsimp [E57, ri, cellp, ints, hki, hk1, hd, hd', hl, wk, hB, hne, Du.row, bkRow, wkE_dec, h1', hno]) | (refine Also.intro ?_ fun _ => ?_) | (refine Hold.intro fun _ => ?_) | (refine And.intro ?_ ?_))
    · rw [hw] at hTd
      have hTd' := hTd.symm
      simp only [Bool.and_eq_true, decide_eq_true_eq] at hTd'
      have h1' : ¬ r.tot < wkW srtD l d.a (IntKind.wrap .i64 (d.a + r.win)) := by exact Int.not_lt.2 hTd'.1
      have h2' : ¬ r.tot < wkW srtD l (IntKind.wrap .i64 (d.b - r.win)) d.b := by exact Int.not_lt.2 hTd'.2
      simp -dsimp [hki]
      repeat' (first | omega | (simp -dsimp [E57, ri, cellp, ints, hki, hk1, hd, hd', hl, wk, hB, hne, Du.row, bkRow, wkE_dec, h1', h2']) | (refine Also.intro ?_ fun _ => ?_) | (refine Hold.intro fun _ => ?_) | (refine And.intro ?_ ?_))
      refine ⟨k + 1, tle_chain rfl ?_, ?_, ⟨by omega, fun j h hj => ?_⟩, by omega⟩
      · simp [okAll, okv, wk]
      · exact (by (try simp -dsimp only [hpush_noH, hpush_hps, hps_over]); refine hle_hps ?_; simp -dsimp [allK, bkRow]; repeat' (first | (refine And.intro ?_ ?_) | (refine sLe.same ?_ ?_ <;> (simp; done)) | (refine sLe.clear ?_ ?_ <;> (first | (simp; done) | (simp; omega))) | (refine sLe.drop 1 ?_ ?_ ?_ <;> (simp; done))))
      · by_cases hjk : j = k
        · subst hjk; rw [hd']; exact hw
        · exact hall j h (by omega)
  · have hkn : ¬ (k : Int) < l.length := by omega
    have hyes : totW srtD l r.win r.tot = true := by
      rw [hT, List.all_eq_true]
      intro d hd
      obtain ⟨j, hj, rfl⟩ := List.getElem_of_mem hd
      exact hall j hj (by omega)
    simp -dsimp [hkn]
    repeat' (first | omega | (simp -dsimp [E57, ri, cellp, ints, hkn, hyes]) | (refine Also.intro ?_ fun _ => ?_) | (refine Hold.intro fun _ => ?_) | (refine And.intro ?_ ?_))
theorem ok57 : FnOK Tryz.prog 57 (.pure totS) := pure_fn (E := E57) rfl (.cons ok84 .nil) (ok := []) (fn := Tryz.f57) (by kernel_rfl) (by kernel_rfl) (by kernel_rfl) (by kernel_rfl) rfl (fun _ _ => by simp) b57
@[simp] def reE (d : Ro × List Du × Du) : List V := [.agg (bkRow d.1 d.2.1), .agg d.2.2.row]
theorem reE_inj (a b : Ro × List Du × Du) (h : reE a = reE b) : a = b := by
  obtain ⟨a1, a2, a3⟩ := a; obtain ⟨b1, b2, b3⟩ := b
  simp only [reE, List.cons.injEq, V.agg.injEq, true_and, and_true] at h
  obtain ⟨h1, h2⟩ := h
  obtain ⟨rfl, rfl⟩ := bkRow_inj h1
  rw [Du.row_inj _ _ h2]
theorem reE_dec (r : Ro) (o : List Du) (x : Du) : decC reE [.agg [.sl 3 (r.ppl.map Pn.row), .int .i64 r.lng, .int .i64 r.rst, .int .i64 r.win, .int .i64 r.tot, .int .i64 r.rcn, .sl 3 (o.map Du.row)], .agg [.int .i64 x.p, .int .i64 x.a, .int .i64 x.b]] = (r, o, x) := decC_eq reE_inj (r, o, x)
noncomputable abbrev recS : PSpec := mkP reE (fun d => d.2.1.length ≤ 1000000) fun d => .bool (recW d.1 d.2.1 d.2.2)
noncomputable abbrev E58 : Env := { P := Tryz.prog, fn := tbl [(54, .pure duanS)], own := [], key := 5800, nt := 17 }
theorem b58 : PureBody E58 [] Tryz.f58 recS := by
  refine pb ?_
  rintro ⟨r, o, x⟩ hl
  have hl : o.length ≤ 1000000 := hl
  have hR : recW r o x = (decide (x.a ≤ r.rcn) || o.any (nearW r x)) := rfl
  have hC : ((Clo.rcn r o x).t) = nearW r x := rfl
  by_cases h : x.a ≤ r.rcn
  · simp -dsimp [Tryz.f58, E58, bkRow, Du.row, h]
    repeat' (first | omega | (simp -dsimp [E58, ri, cellp, ints, h, hl, hR]) | (refine Also.intro ?_ fun _ => ?_) | (refine Hold.intro fun _ => ?_) | (refine And.intro ?_ ?_))
  · simp -dsimp [Tryz.f58, E58, bkRow, Du.row, h]
    repeat' (first | omega | (simp -dsimp [E58, ri, cellp, ints, h, hl, hR, duxE_rcn, Clo.v, bkRow, Du.row, hC]) | (refine Also.intro ?_ fun _ => ?_) | (refine Hold.intro fun _ => ?_) | (refine And.intro ?_ ?_))
theorem ok58 : FnOK Tryz.prog 58 (.pure recS) := pure_fn (E := E58) rfl (.cons ok54 .nil) (ok := []) (fn := Tryz.f58) (by kernel_rfl) (by kernel_rfl) (by kernel_rfl) (by kernel_rfl) rfl (fun _ _ => by simp) b58

/-! the rules that a duty breaks -/
def ouL (l : List Int) : List (Nat × Site) :=
  [(3204, { base := 0, blks := [{ z := 1, els := [[if l = [] then .nil else .bsl 5309 0 l.length]], ty := 22, cl := l.isEmpty }] }), (5309, { base := 0, blks := if l = [] then [] else [{ z := 1, els := l.map ri, ty := 3 }] })]
theorem ouL_keys (l : List Int) : (ouL l).map (·.1) = [3204, 5309] := rfl
theorem ouL_inj (l l' : List Int) (h : ∀ k ∈ [3204, 5309], hps (ouL l) noH k = hps (ouL l') noH k) : l = l' := by
  have h1 := congrArg Site.blks (h 5309 (by simp))
  simp [ouL] at h1
  by_cases e : l = [] <;> by_cases e' : l' = [] <;> simp [e, e'] at h1 ⊢
  exact map_ri_inj h1
def puE (d : List Int × Int × Bool) : List V := [.int .i64 d.2.1, .bool d.2.2, .bptr 3204 0 1 0 0]
theorem pu_inj (d d' : List Int × Int × Bool) (h : Hp) (e : puE d = puE d') (h1 : Mt ouL [3204, 5309] d.1 h) (h2 : Mt ouL [3204, 5309] d'.1 h) : d = d' := by
  obtain ⟨l, n, b⟩ := d; obtain ⟨l', n', b'⟩ := d'
  have := ouL_inj l l' fun k hk => (h1 k hk).symm.trans (h2 k hk)
  simp [puE] at e
  rw [this, e.1, e.2]
noncomputable abbrev putS : HSpec := mkH puE (fun d h => Mt ouL [3204, 5309] d.1 h) (fun d => d.1.length ≤ 100) (fun _ => .tup []) (fun d h => Ob ouL (if d.2.2 = true then d.1 ++ [d.2.1] else d.1) h)
def ouP (l : List Int) (n : Int) (b : Bool) : List Int := if b = true then l ++ [n] else l
theorem put_go (l : List Int) (n : Int) (b : Bool) (h : Hp) : putS.go [.int .i64 n, .bool b, .bptr 3204 0 1 0 0] (Ob ouL l h) = ⟨l.length ≤ 100, .tup [], Ob ouL (ouP l n b) h⟩ := by
  have := mkH_at (pre := fun d : List Int × Int × Bool => d.1.length ≤ 100) (res := fun _ => V.tup []) (post := fun d h => Ob ouL (if d.2.2 = true then d.1 ++ [d.2.1] else d.1) h) pu_inj (d := (l, n, b)) (h := Ob ouL l h) (ob_mt' ouL_keys)
  rw [ob_ob ouL_keys] at this
  exact this
noncomputable abbrev E53 : Env := { P := Tryz.prog, fn := tbl [], own := [], key := 5300, nt := 10 }
theorem b53 : HeapBody E53 [] Tryz.f53 putS := by
  intro args h hc
  obtain ⟨⟨l, n, b⟩, rfl, hM, hl, hgo⟩ := mkH_inv hc
  rw [hgo]
  clear hgo hc
  have hM : h = Ob ouL l h := (ob_mt ouL_keys).1 hM
  have hl : l.length ≤ 100 := hl
  dsimp only
  rw [hM]
  generalize h = g at *
  clear hM
  rw [ob_ob ouL_keys]
  cases b
  · simp -dsimp [Tryz.f53, E53, puE]
    repeat' (first | omega | (simp -dsimp [E53, ri, cellp, ints, hle_refl]) | (refine Also.intro ?_ fun _ => ?_) | (refine Hold.intro fun _ => ?_) | (refine And.intro ?_ ?_))
  · by_cases hl0 : l = []
    · subst hl0
      simp -dsimp [Tryz.f53, E53, puE, Ob, ouL]
      repeat' (first | omega | (simp -dsimp [E53, ri, cellp, ints, *]) | (refine Also.intro ?_ fun _ => ?_) | (refine Hold.intro fun _ => ?_) | (refine And.intro ?_ ?_))
      exact (by (try simp -dsimp only [hpush_noH, hpush_hps, hps_over]); refine hle_hpsb ?_; simp -dsimp [allK, ri]; repeat' (first | (refine And.intro ?_ ?_) | (refine sLe.same ?_ ?_ <;> (simp; done)) | (refine sLe.clear ?_ ?_ <;> (first | (simp; done) | (simp; omega))) | (refine sLe.drop 1 ?_ ?_ ?_ <;> (simp; done))))
    · simp -dsimp [Tryz.f53, E53, puE, Ob, ouL, hl0]
      repeat' (first | omega | (simp -dsimp [E53, ri, cellp, ints, hl0, hl]) | (refine Also.intro ?_ fun _ => ?_) | (refine Hold.intro fun _ => ?_) | (refine And.intro ?_ ?_))
      exact (by (try simp -dsimp only [hpush_noH, hpush_hps, hps_over]); refine hle_hpsb ?_; simp -dsimp [allK, ri]; repeat' (first | (refine And.intro ?_ ?_) | (refine sLe.same ?_ ?_ <;> (simp; done)) | (refine sLe.clear ?_ ?_ <;> (first | (simp; done) | (simp; omega))) | (refine sLe.drop 1 ?_ ?_ ?_ <;> (simp; done))))
theorem ok53 : FnOK Tryz.prog 53 (.heap putS) := heap_fn (E := E53) rfl LOK.nil (ok := []) (fn := Tryz.f53) (by kernel_rfl) (by kernel_rfl) (by kernel_rfl) (by kernel_rfl) rfl (fun args h hc => by obtain ⟨d, rfl, _⟩ := mkH_inv hc; simp [puE]) b53
def ouA (l : List Int) : Site := { base := 0, blks := [{ z := 1, els := [[if l = [] then .nil else .bsl 5309 0 l.length]], ty := 22, cl := l.isEmpty }] }
def ouB (l : List Int) : Site := { base := 0, blks := if l = [] then [] else [{ z := 1, els := l.map ri, ty := 3 }] }
theorem put_gen (l : List Int) (n : Int) (b : Bool) (h : Hp) (h1 : h 3204 = ouA l) (h2 : h 5309 = ouB l) : putS.go [.int .i64 n, .bool b, .bptr 3204 0 1 0 0] h = ⟨l.length ≤ 100, .tup [], Ob ouL (ouP l n b) h⟩ := by
  have hh : h = Ob ouL l h := (ob_mt ouL_keys).1 fun k hk => by
    simp only [List.mem_cons, List.not_mem_nil, or_false] at hk
    rcases hk with rfl | rfl
    · exact h1
    · exact h2
  have := put_go l n b h
  rw [← hh] at this
  exact this
theorem ou_hps (l : List Int) (L : List (Nat × Site)) : Ob ouL l (hps L noH) = hps ((3204, ouA l) :: (5309, ouB l) :: L) noH := rfl
theorem put_1 (n : Int) (b : Bool) (A B : Site) : putS.go [.int .i64 n, .bool b, .bptr 3204 0 1 0 0] (hps [(3204, { base := 0, blks := [{ z := 1, els := [[V.nil]], ty := 22 }] }), (3203, A), (3202, B)] noH) = ⟨True, .tup [], hps [(3204, ouA (ouP [] n b)), (5309, ouB (ouP [] n b)), (3203, A), (3202, B)] noH⟩ := by
  rw [put_gen [] n b _ rfl rfl, ou_hps]
  congr 1
  · simp
  · funext k
    by_cases h1 : k = 3204
    · simp [h1]
    · by_cases h2 : k = 5309
      · simp [h2]
      · simp [h1, h2]
theorem put_2 (l : List Int) (n : Int) (b : Bool) (L : List (Nat × Site)) : putS.go [.int .i64 n, .bool b, .bptr 3204 0 1 0 0] (hps ((3204, ouA l) :: (5309, ouB l) :: L) noH) = ⟨l.length ≤ 100, .tup [], hps ((3204, ouA (ouP l n b)) :: (5309, ouB (ouP l n b)) :: L) noH⟩ := by
  rw [put_gen l n b _ rfl rfl, ou_hps]
  congr 1
  funext k
  by_cases h1 : k = 3204
  · simp [h1]
  · by_cases h2 : k = 5309
    · simp [h2]
    · simp [h1, h2]
theorem put_3 (l : List Int) (n : Int) (b : Bool) (X A B A' B' : Site) : putS.go [.int .i64 n, .bool b, .bptr 3204 0 1 0 0] (hps [(5105, X), (3203, A'), (3202, B'), (3204, ouA l), (5309, ouB l), (3203, A), (3202, B)] noH) = ⟨l.length ≤ 100, .tup [], hps [(3204, ouA (ouP l n b)), (5309, ouB (ouP l n b)), (5105, X), (3203, A'), (3202, B')] noH⟩ := by
  rw [put_gen l n b _ rfl rfl, ou_hps]
  congr 1
  funext k
  by_cases h1 : k = 3204
  · simp [h1]
  · by_cases h2 : k = 5309
    · simp [h2]
    · by_cases h3 : k = 3203
      · simp [h3]
      · by_cases h4 : k = 3202
        · simp [h4]
        · simp [h1, h2, h3, h4]
end Go.Sx
end
section
/- Crew: the rules that a duty breaks. No conditions. -/
set_option linter.unusedSimpArgs false
set_option linter.unusedSectionVars false
set_option maxRecDepth 100000
set_option maxHeartbeats 2000000
namespace Go.Sx
open Go.Proofs
attribute [local irreducible] HLe

noncomputable abbrev brkS : PSpec := mkP reE (fun d => Beg (d.2.1 ++ [d.2.2])) fun d => ints (brkW srtD d.1 d.2.1 d.2.2)
noncomputable abbrev E32 : Env := { P := Tryz.prog, fn := tbl [(54, .pure duanS), (57, .pure totS), (58, .pure recS), (51, .heap cloS), (53, .heap putS)], own := [], key := 3200, nt := 42, frz := [(4, [2, 50002, 3, 50003])] }
theorem b32 : PureBody E32 [(4, ([1, 3, 5], [[0, 1, 2, 3, 4, 5, 6, 7, 8, 9, 10]]))] Tryz.f32 brkS := by
  refine pb ?_
  rintro ⟨r, o, x⟩ hB
  have hB : Beg (o ++ [x]) := hB
  have hl : o.length ≤ 1000000 := by have := hB.n; simp at this; omega
  have hap : List.map Du.row o ++ [[V.int .i64 x.p, V.int .i64 x.a, V.int .i64 x.b]] = List.map Du.row (o ++ [x]) := by rw [List.map_append]; rfl
  have hK : brkW srtD r o x = (if (o.any (Clo.rst r o x).t) = true then [3] else []) ++ (if r.lng < wr (x.b - x.a) then [4] else []) ++ (if totW srtD (o ++ [x]) r.win r.tot = true then [] else [5]) ++ (if recW r o x = true then [] else [6]) := rfl
  have hox : (o ++ [x]).length = o.length + 1 := by simp
  generalize o ++ [x] = ox at hap hK hB hox
  generalize h3 : o.any (Clo.rst r o x).t = c3 at hK
  generalize h5 : totW srtD ox r.win r.tot = c5 at hK
  generalize h6 : recW r o x = c6 at hK
  generalize h4 : decide (r.lng < wr (x.b - x.a)) = c4
  have hK2 : (if r.lng < wr (x.b - x.a) then [(4 : Int)] else []) = if c4 = true then [4] else [] := by
    by_cases h : r.lng < wr (x.b - x.a)
    · rw [if_pos h, if_pos (by rw [← h4]; simpa using h)]
    · rw [if_neg h, if_neg (by rw [← h4]; simpa using h)]
  rw [hK2] at hK
  have h4' : decide (r.lng < IntKind.wrap .i64 (x.b - x.a)) = c4 := h4
  have l1 : (ouP [] 3 c3).length ≤ 100 := by cases c3 <;> simp [ouP]
  have l2 : (ouP (ouP [] 3 c3) 4 c4).length ≤ 100 := by cases c3 <;> cases c4 <;> simp [ouP]
  have l3 : (ouP (ouP (ouP [] 3 c3) 4 c4) 5 (!c5)).length ≤ 100 := by cases c3 <;> cases c4 <;> cases c5 <;> simp [ouP]
  have hK' : brkW srtD r o x = ouP (ouP (ouP (ouP [] 3 c3) 4 c4) 5 (!c5)) 6 (!c6) := by
    rw [hK]; cases c3 <;> cases c4 <;> cases c5 <;> cases c6 <;> rfl
  clear hK
  generalize hP : ouP (ouP (ouP (ouP [] 3 c3) 4 c4) 5 (!c5)) 6 (!c6) = P at hK'
  simp -dsimp [Tryz.f32, E32, FreeAt, put_1, put_2, put_3, cloS_go, toE_dec, reE_dec, duxE_rst, Clo.v, h3, h4', h5, h6, l1, l2, l3, hP, hl, hap, hox, hB, bkRow, Du.row]
  repeat' (first | omega | (simp -dsimp [E32, ri, cellp, ints, FreeAt, put_1, put_2, put_3, cloS_go, toE_dec, reE_dec, duxE_rst, Clo.v, h3, h4', h5, h6, l1, l2, l3, hP, hl, hap, hox, hB, bkRow, Du.row]) | (refine Also.intro ?_ fun _ => ?_) | (refine Hold.intro fun _ => ?_) | (refine And.intro ?_ ?_))
  all_goals
    clear hP
    by_cases hP0 : P = []
    · subst hP0
      repeat' (first | omega | (simp -dsimp [E32, ri, cellp, ints, ouA, ouB, hK']) | (refine Also.intro ?_ fun _ => ?_) | (refine Hold.intro fun _ => ?_) | (refine And.intro ?_ ?_))
    · repeat' (first | omega | (simp -dsimp [E32, ri, cellp, ints, ouA, ouB, hP0, hK']) | (refine Also.intro ?_ fun _ => ?_) | (refine Hold.intro fun _ => ?_) | (refine And.intro ?_ ?_))
theorem ok32 : FnOK Tryz.prog 32 (.pure brkS) := pure_fn (E := E32) rfl (.cons ok54 (.cons ok57 (.cons ok58 (.cons ok51 (.cons ok53 .nil))))) (ok := [(4, ([1, 3, 5], [[0, 1, 2, 3, 4, 5, 6, 7, 8, 9, 10]]))]) (fn := Tryz.f32) (by kernel_rfl) (by kernel_rfl) (by kernel_rfl) (by kernel_rfl) rfl (fun _ _ => by simp) b32
end Go.Sx
end
