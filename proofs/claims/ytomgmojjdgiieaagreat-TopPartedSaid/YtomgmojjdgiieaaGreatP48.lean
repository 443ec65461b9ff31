/- Spans: rest, Covers and Count of boxes of two spans. No conditions. -/
import Derived.Test.YtomgmojjdgiieaaGreatP47
set_option linter.unusedSimpArgs false
set_option linter.unusedVariables false
set_option linter.unusedSectionVars false
set_option linter.unusedSimpArgs false
set_option linter.unusedSectionVars false
set_option maxRecDepth 100000
set_option maxHeartbeats 8000000
namespace Go.Sx
open Go.Proofs
attribute [local irreducible] awp HLe
theorem q1_len (a b : Sp) : (q1 a b).length ≤ 1 := by unfold q1; split <;> simp
theorem q2_len (a b : Sp) : (q2 a b).length ≤ 1 := by unfold q2; split <;> simp
theorem mns2_len (l b : Bx) : (mns2 l b).length ≤ 4 := by
  have h1 := q1_len l.a b.a
  have h2 := q2_len l.a b.a
  have h3 := q1_len l.b b.b
  have h4 := q2_len l.b b.b
  simp only [mns2, mnT, mnB1, List.length_append, List.length_map, List.length_nil]
  split
  · simp only [List.length_nil]; omega
  · simp only [List.length_append, List.length_map, List.length_nil]; omega
def rst2 (l : List Bx) (b : Bx) : List Bx := l.flatMap fun a => mns2 a b
theorem rst2_len (b : Bx) : ∀ l : List Bx, (rst2 l b).length ≤ 4 * l.length
  | [] => by simp [rst2]
  | a :: l => by
    have h1 := mns2_len a b
    have h2 := rst2_len b l
    simp only [rst2, List.flatMap_cons, List.length_append, List.length_cons] at h2 ⊢
    omega
def rsC (s : List Bx) : List (Nat × Site) := match s with
  | [] => [(1904, { base := 0, blks := [{ z := 1, els := [[.nil]], ty := 46 }] }), (1921, { base := 0, blks := [] })]
  | s => [(1904, { base := 0, blks := [{ z := 1, els := [[.bsl 1921 0 s.length]], ty := 46, cl := false }] }), (1921, { base := 0, blks := [{ z := 1, els := s.map bxV, ty := 48 }] })]
theorem rsC_keys (s : List Bx) : (rsC s).map (·.1) = [1904, 1921] := by cases s <;> rfl
theorem rsC_inj (s s' : List Bx) (h : ∀ k ∈ [1904, 1921], hps (rsC s) noH k = hps (rsC s') noH k) : s = s' := by
  have h2 := h 1921 (by simp)
  cases s with
  | nil =>
    cases s' with
    | nil => rfl
    | cons y s' => simp [rsC, hps] at h2
  | cons x s =>
    cases s' with
    | nil => simp [rsC, hps] at h2
    | cons y s' =>
      simp only [rsC, hps] at h2
      simp at h2
      have : (x :: s).map bxV = (y :: s').map bxV := by simp [h2]
      exact mapRow_inj bxV_inj this
def cellZ (x : List V) (i j : Nat) : Int := (((x.getD 0 .top).rows.getD i []).getD j .top).toInt
def mnOf (x : List V) : Bx := ⟨⟨cellZ x 0 0, cellZ x 0 1⟩, ⟨cellZ x 1 0, cellZ x 1 1⟩⟩
theorem mnOf_V (s : Bx) : mnOf (bxV s) = s := rfl
abbrev rsPre (s : List Bx) (x : List V) : Prop := (∃ p, x = bxV p) ∧ s.length ≤ 100000000
theorem rs_run : ∀ (c s : List Bx), s.length + c.length ≤ 100000000 → (runS rsPre (fun _ _ => true) (fun s x => s ++ [mnOf x]) s (c.map bxV)).1 ∧ (runS rsPre (fun _ _ => true) (fun s x => s ++ [mnOf x]) s (c.map bxV)).2 = (true, s ++ c)
  | [], s, _ => ⟨trivial, by simp [runS]⟩
  | p :: c, s, h => by
    simp only [List.length_cons] at h
    obtain ⟨h1, h2⟩ := rs_run c (s ++ [p]) (by simp; omega)
    simp only [List.map_cons, runS, mnOf_V]
    exact ⟨⟨⟨⟨p, rfl⟩, by omega⟩, h1⟩, by rw [h2]; simp⟩
@[simp] def rsA (d : List Bx × Bx) : List V := [.sl 1 (d.1.map bxV), .sl 2 [d.2.a.row, d.2.b.row]]
theorem rsA_inj (a b : List Bx × Bx) (h : rsA a = rsA b) : a = b := by
  obtain ⟨a1, a2⟩ := a; obtain ⟨b1, b2⟩ := b
  simp only [rsA, List.cons.injEq, V.sl.injEq, true_and, and_true] at h
  rw [mapRow_inj bxV_inj h.1, bxV_inj a2 b2 (by simp only [bxV, List.cons.injEq, V.sl.injEq, true_and, and_true]; exact ⟨h.2.1, h.2.2⟩)]
structure RsP (d : List Bx × Bx) : Prop where
  n : d.1.length ≤ 2000000
  l : ∀ s ∈ d.1, Bn2 s
  b : Bn2 d.2
noncomputable abbrev resS : PSpec := mkP rsA RsP fun d => .sl 1 ((rst2 d.1 d.2).map bxV)
theorem rst2_take (l : List Bx) (b : Bx) {k : Nat} {s : Bx} (h : l[k]? = some s) : rst2 (l.take (k + 1)) b = rst2 (l.take k) b ++ mns2 s b := by
  rw [rst2, List.take_add_one, h]; simp [rst2]
noncomputable abbrev E19 : Env := { P := Tryz.prog, fn := tbl [(40, .pure mi2S), (72, .iter mnI)], own := [], key := 1900, nt := 24 }
theorem b19 : PureBody E19 [] Tryz.f19 resS := by
  refine pb ?_
  rintro ⟨l, b⟩ ⟨hn, hl, hb⟩
  simp only at hn hl hb
  simp -dsimp [Tryz.f19, E19, rsA, Sp.row]
  repeat' (first | omega | (simp -dsimp [E19, ri, cellp, ints, rsA, Sp.row]) | (refine Also.intro ?_ fun _ => ?_) | (refine Hold.intro fun _ => ?_) | (refine And.intro ?_ ?_))
  refine awp_loop [11, 12, 13, 6, 14, 15, 16, 7, 18, 19, 20, 21, 22, 10] (fun k : { k : Nat // k ≤ l.length } => [(10, (true, .int .i64 k.1))]) (fun k => hps (rsC (rst2 (l.take k.1) b) ++ [(7207, { base := k.1 * 1000000, blks := [] }), (7307, { base := k.1 * 1000000, blks := [] })]) noH) (fun k => l.length - k.1) ⟨0, by omega⟩ ?_ ?_ ?_
  · simp [okAll, okv]
  · simp -dsimp only [List.take_zero, rst2, List.flatMap_nil, rsC, List.cons_append, List.nil_append]
    exact (by (try simp -dsimp only [hpush_noH, hpush_hps, hps_over]); refine hle_hps ?_; simp -dsimp [allK, ]; repeat' (first | (refine And.intro ?_ ?_) | (refine sLe.same ?_ ?_ <;> (simp; done)) | (refine sLe.clear ?_ ?_ <;> (first | (simp; done) | (simp; omega))) | (refine sLe.drop 1 ?_ ?_ ?_ <;> (simp; done))))
  rintro ⟨k, hk⟩
  dsimp only
  by_cases hk1 : k < l.length
  · have hki : (k : Int) < l.length := by omega
    have wk : IntKind.wrap .i64 ((k : Int) + 1) = (k + 1 : Nat) := wrap_id (by omega) (by omega)
    obtain ⟨s, hs⟩ : ∃ s, l[k]? = some s := ⟨_, List.getElem?_eq_getElem hk1⟩
    have hs' : l[k] = s := (List.getElem?_eq_some_iff.1 hs).2
    have hsb := hl s (by rw [← hs']; exact List.getElem_mem hk1)
    have hT := rst2_take l b hs
    have hml := mns2_len s b
    have hol := rst2_len b (l.take k)
    rw [List.length_take] at hol
    have hme := miA_dec s b
    obtain ⟨hr1, hr2⟩ := rs_run (mns2 s b) (rst2 (l.take k) b) (by omega)
    generalize rst2 (l.take k) b = out at *
    simp -dsimp [hki, bxV]
    repeat' (first | omega | (simp -dsimp [E19, ri, cellp, ints, hki, hk1, hs, hs', bxV, Sp.row, hme]) | (refine Also.intro ?_ fun _ => ?_) | (refine Hold.intro fun _ => ?_) | (refine And.intro ?_ ?_))
    refine awp_range (LC := rsC) (keys := [1904, 1921]) (pre := rsPre) (go := fun _ _ => true) (nxt := fun s x => s ++ [mnOf x]) rsC_inj rsC_keys out .normal ((mns2 s b).map bxV) (own := [7207, 7307]) (ro := []) (dec := mnDec) rfl (by simp; rfl) rfl (by decide) (by decide) (by decide) ?_ ?_ ?_ ?_ hr1 ?_ ?_ ?_
    · cases out <;> simp [hps, rsC, YS, noH]
    · intro k hk
      simp at hk
      rcases hk with rfl | rfl <;> cases out <;> simp [hps, rsC]
    · intro k hk
      simp at hk
      rcases hk with rfl | rfl <;> cases out <;> simp [hps, rsC]
    · rw [mnDec_at]
      exact ⟨⟨hsb, hb⟩, rfl⟩
    · rintro o x hb2 ⟨⟨p, rfl⟩, ho⟩ hy1 hy2
      refine ⟨rfl, ?_⟩
      rw [mnOf_V]
      cases o with
      | nil =>
        simp -dsimp [E19, setT, bxV, rsC, Sp.row]
        repeat' (first | omega | (simp -dsimp [E19, ri, cellp, ints, bxV, Sp.row]) | (refine Also.intro ?_ fun _ => ?_) | (refine Hold.intro fun _ => ?_) | (refine And.intro ?_ ?_))
        exact (by (try simp -dsimp only [hpush_noH, hpush_hps, hps_over]); refine hle_hpsb ?_; simp -dsimp [allK, ]; repeat' (first | (refine And.intro ?_ ?_) | (refine sLe.same ?_ ?_ <;> (simp; done)) | (refine sLe.clear ?_ ?_ <;> (first | (simp; done) | (simp; omega))) | (refine sLe.drop 1 ?_ ?_ ?_ <;> (simp; done))))
      | cons y o =>
        have hb16 : (o.length + 1 + 1) * 24 ≤ 140737488355328 := by simp at ho; omega
        simp -dsimp [E19, setT, bxV, rsC, Sp.row]
        repeat' (first | omega | (simp -dsimp [E19, ri, cellp, ints, bxV, Sp.row, hb16]) | (refine Also.intro ?_ fun _ => ?_) | (refine Hold.intro fun _ => ?_) | (refine And.intro ?_ ?_))
        exact (by (try simp -dsimp only [hpush_noH, hpush_hps, hps_over]); refine hle_hpsb ?_; simp -dsimp [allK, bxV, Sp.row]; repeat' (first | (refine And.intro ?_ ?_) | (refine sLe.same ?_ ?_ <;> (simp; done)) | (refine sLe.clear ?_ ?_ <;> (first | (simp; done) | (simp; omega))) | (refine sLe.drop 1 ?_ ?_ ?_ <;> (simp; done))))
    · intro _
      rw [hr2]
      generalize hw : out ++ mns2 s b = w at *
      cases w with
      | nil =>
        simp -dsimp [rsC, hps_app]
        repeat' (first | omega | (simp -dsimp [E19, ri, cellp, ints, rsC, wk]) | (refine Also.intro ?_ fun _ => ?_) | (refine Hold.intro fun _ => ?_) | (refine And.intro ?_ ?_))
        refine ⟨k + 1, tle_chain rfl ?_, ?_, by omega, by omega⟩
        · simp [okAll, okv]
        · rw [hT]
          cases out <;> simp -dsimp only [rsC, List.cons_append, List.nil_append, hps_over] <;> exact (by (try simp -dsimp only [hpush_noH, hpush_hps, hps_over]); refine hle_hps ?_; simp -dsimp [allK, Nat.add_mul]; repeat' (first | (refine And.intro ?_ ?_) | (refine sLe.same ?_ ?_ <;> (simp; done)) | (refine sLe.clear ?_ ?_ <;> (first | (simp; done) | (simp; omega))) | (refine sLe.drop 1 ?_ ?_ ?_ <;> (simp; done))))
      | cons y w =>
        simp -dsimp [rsC, hps_app]
        repeat' (first | omega | (simp -dsimp [E19, ri, cellp, ints, rsC, wk]) | (refine Also.intro ?_ fun _ => ?_) | (refine Hold.intro fun _ => ?_) | (refine And.intro ?_ ?_))
        refine ⟨k + 1, tle_chain rfl ?_, ?_, by omega, by omega⟩
        · simp [okAll, okv]
        · rw [hT]
          cases out <;> simp -dsimp only [rsC, List.cons_append, List.nil_append, hps_over] <;> exact (by (try simp -dsimp only [hpush_noH, hpush_hps, hps_over]); refine hle_hps ?_; simp -dsimp [allK, Nat.add_mul]; repeat' (first | (refine And.intro ?_ ?_) | (refine sLe.same ?_ ?_ <;> (simp; done)) | (refine sLe.clear ?_ ?_ <;> (first | (simp; done) | (simp; omega))) | (refine sLe.drop 1 ?_ ?_ ?_ <;> (simp; done))))
    · intro h
      rw [hr2] at h; cases h
  · have hkn : ¬ (k : Int) < l.length := by omega
    have hke : k = l.length := by omega
    subst hke
    rw [List.take_length]
    generalize rst2 l b = out at *
    cases out with
    | nil =>
      simp -dsimp [hkn, rsC, hps_app]
      repeat' (first | omega | (simp -dsimp [E19, ri, cellp, ints, hkn, rsC]) | (refine Also.intro ?_ fun _ => ?_) | (refine Hold.intro fun _ => ?_) | (refine And.intro ?_ ?_))
    | cons y o =>
      simp -dsimp [hkn, rsC, hps_app]
      repeat' (first | omega | (simp -dsimp [E19, ri, cellp, ints, hkn, rsC, bxV, lendRs]) | (refine Also.intro ?_ fun _ => ?_) | (refine Hold.intro fun _ => ?_) | (refine And.intro ?_ ?_))
theorem ok19 : FnOK Tryz.prog 19 (.pure resS) := pure_fn (E := E19) rfl (.cons ok40 (.cons ok72 .nil)) (ok := []) (fn := Tryz.f19) (by kernel_rfl) (by kernel_rfl) (by kernel_rfl) (by kernel_rfl) rfl (fun _ _ => by simp) b19
@[simp] def bxsE (l : List Bx) : List V := [.sl 1 (l.map bxV)]
theorem bxsE_inj (a b : List Bx) (h : bxsE a = bxsE b) : a = b := by
  simp only [bxsE, List.cons.injEq, V.sl.injEq, true_and, and_true] at h
  exact mapRow_inj bxV_inj h
structure Ok2 (x : Bx) : Prop where
  a : spN x.a = false
  b : spN x.b = false
structure ChP (l : List Bx) : Prop where
  n : l.length ≤ 1000000
  ok : ∀ s ∈ l, Ok2 s
theorem sl2_dec (s : Bx) : decC slE [.sl 2 [[.int .i64 s.a.lo, .int .i64 s.a.hi], [.int .i64 s.b.lo, .int .i64 s.b.hi]]] = [s.a, s.b] := decC_eq slE_inj [s.a, s.b]
noncomputable abbrev chkS : PSpec := mkP bxsE ChP fun _ => .int .i64 0
noncomputable abbrev E18 : Env := { P := Tryz.prog, fn := tbl [(39, .pure bxkS)], own := [], key := 1800, nt := 34 }
theorem b18 : PureBody E18 [] Tryz.f18 chkS := by
  refine pb ?_
  rintro l ⟨hn, hok⟩
  simp -dsimp [Tryz.f18, E18]
  refine awp_loop [11, 12, 13, 4, 14, 15, 5, 16, 17, 18, 2, 19, 10] (fun k : { k : Nat // k ≤ l.length } => [(10, (true, .int .i64 k.1)), (2, (true, .int .i64 0))]) (fun _ => noH) (fun k => l.length - k.1) ⟨0, by omega⟩ ?_ (HLe.refl _) ?_
  · simp [okAll, okv]
  rintro ⟨k, hk⟩
  dsimp only
  by_cases hk1 : k < l.length
  · have hki : (k : Int) < l.length := by omega
    have wk : IntKind.wrap .i64 ((k : Int) + 1) = (k + 1 : Nat) := wrap_id (by omega) (by omega)
    obtain ⟨s, hs⟩ : ∃ s, l[k]? = some s := ⟨_, List.getElem?_eq_getElem hk1⟩
    have hs' : l[k] = s := (List.getElem?_eq_some_iff.1 hs).2
    obtain ⟨hsb1, hsb2⟩ := hok s (by rw [← hs']; exact List.getElem_mem hk1)
    have hbx := sl2_dec s
    have hw : withinB 2 1 3 = true := rfl
    simp -dsimp [hki]
    repeat' (first | omega | (simp -dsimp [E18, ri, cellp, ints, hki, hk1, wk, hs, hs', hsb1, hsb2, hbx, hw, bxV, Sp.row]) | (refine Also.intro ?_ fun _ => ?_) | (refine Hold.intro fun _ => ?_) | (refine And.intro ?_ ?_))
    refine ⟨k + 1, tle_chain rfl ?_, HLe.refl _, by omega, by omega⟩
    simp [okAll, okv]
  · have hkn : ¬ (k : Int) < l.length := by omega
    have hke : k = l.length := by omega
    subst hke
    simp -dsimp [hkn]
    repeat' (first | omega | (simp -dsimp [E18, ri, cellp, ints, hkn]) | (refine Also.intro ?_ fun _ => ?_) | (refine Hold.intro fun _ => ?_) | (refine And.intro ?_ ?_))
    refine awp_loop [23, 24, 25, 7, 26, 27, 28, 29, 30, 31, 32, 2, 33, 22] (fun k : { k : Nat // k ≤ l.length } => [(22, (true, .int .i64 k.1)), (2, (true, .int .i64 0))]) (fun _ => noH) (fun k => l.length - k.1) ⟨0, by omega⟩ ?_ (HLe.refl _) ?_
    · simp [okAll, okv]
    rintro ⟨k, hk⟩
    dsimp only
    by_cases hk1 : k < l.length
    · have hki : (k : Int) < l.length := by omega
      have wk : IntKind.wrap .i64 ((k : Int) + 1) = (k + 1 : Nat) := wrap_id (by omega) (by omega)
      obtain ⟨s, hs⟩ : ∃ s, l[k]? = some s := ⟨_, List.getElem?_eq_getElem hk1⟩
      have hs' : l[k] = s := (List.getElem?_eq_some_iff.1 hs).2
      have h0 : 0 < l.length := by omega
      have h0i : (0 : Int) < l.length := by omega
      obtain ⟨s0, hs0⟩ : ∃ s0, l[0]? = some s0 := ⟨_, List.getElem?_eq_getElem h0⟩
      have hs0' : l[0] = s0 := (List.getElem?_eq_some_iff.1 hs0).2
      simp -dsimp [hki]
      repeat' (first | omega | (simp -dsimp [E18, ri, cellp, ints, hki, hk1, wk, hs, hs', h0, h0i, hs0, hs0', bxV, Sp.row]) | (refine Also.intro ?_ fun _ => ?_) | (refine Hold.intro fun _ => ?_) | (refine And.intro ?_ ?_))
      refine ⟨k + 1, tle_chain rfl ?_, HLe.refl _, by omega, by omega⟩
      simp [okAll, okv]
    · have hkn : ¬ (k : Int) < l.length := by omega
      simp -dsimp [hkn]
      repeat' (first | omega | (simp -dsimp [E18, ri, cellp, ints, hkn]) | (refine Also.intro ?_ fun _ => ?_) | (refine Hold.intro fun _ => ?_) | (refine And.intro ?_ ?_))
theorem ok18 : FnOK Tryz.prog 18 (.pure chkS) := pure_fn (E := E18) rfl (.cons ok39 .nil) (ok := []) (fn := Tryz.f18) (by kernel_rfl) (by kernel_rfl) (by kernel_rfl) (by kernel_rfl) rfl (fun _ _ => by simp) b18
@[simp] def covE2 (d : Bx × List Bx) : List V := [.sl 2 [d.1.a.row, d.1.b.row], .sl 1 (d.2.map bxV)]
theorem covE2_inj (a b : Bx × List Bx) (h : covE2 a = covE2 b) : a = b := by
  obtain ⟨a1, a2⟩ := a; obtain ⟨b1, b2⟩ := b
  simp only [covE2, List.cons.injEq, V.sl.injEq, true_and, and_true] at h
  rw [bxV_inj a1 b1 (by simp only [bxV, List.cons.injEq, V.sl.injEq, true_and, and_true]; exact ⟨h.1.1, h.1.2⟩), mapRow_inj bxV_inj h.2]
def lft2 (a : Bx) (l : List Bx) : Nat → List Bx
  | 0 => [a]
  | k + 1 => rst2 (lft2 a l k) (l.getD k default)
structure Cv2P (d : Bx × List Bx) : Prop where
  n : d.2.length ≤ 20
  a : Ok2 d.1
  l : ∀ s ∈ d.2, Ok2 s
  m : ∀ k, k < d.2.length → (lft2 d.1 d.2 k).length ≤ 1000000 ∧ ∀ x ∈ lft2 d.1 d.2 k, Bn2 x
  e : lft2 d.1 d.2 d.2.length = []
theorem Ok2.bn {x : Bx} (h : Ok2 x) : Bn2 x := by
  obtain ⟨h1, h2⟩ := h
  rw [spN_eq] at h1 h2
  simp only [Bool.not_eq_false', decide_eq_true_eq] at h1 h2
  exact ⟨⟨by omega, by omega⟩, ⟨by omega, by omega⟩⟩
noncomputable abbrev cv2S : PSpec := mkP covE2 Cv2P fun _ => .tup [.nil, .bool true, .int .i64 0]
noncomputable abbrev E8 : Env := { P := Tryz.prog, fn := tbl [(18, .pure chkS), (19, .pure resS)], own := [18], key := 800, nt := 58 }
theorem b8 : PureBody E8 [] Tryz.f8 cv2S := by
  refine pb ?_
  rintro ⟨a, l⟩ ⟨hn, ha, hl, hm, he⟩
  simp only at hn ha hl hm he
  have e1 : ((20 : Int) < l.length) = False := eq_false (by omega)
  have e2 : (20 < l.length) = False := eq_false (by omega)
  have hde : decC bxsE [.sl 1 ([.sl 2 [[.int .i64 a.a.lo, .int .i64 a.a.hi], [.int .i64 a.b.lo, .int .i64 a.b.hi]]] :: l.map bxV)] = a :: l := decC_eq bxsE_inj (a :: l)
  have hch : ChP (a :: l) := ⟨by simp; omega, fun s hs => by rcases List.mem_cons.1 hs with rfl | h; exact ha; exact hl s h⟩
  simp -dsimp [Tryz.f8, E8, Sp.row]
  repeat' (first | omega | (simp -dsimp [E8, ri, cellp, ints, e1, e2, hde, hch, Sp.row, bxV]) | (refine Also.intro ?_ fun _ => ?_) | (refine Hold.intro fun _ => ?_) | (refine And.intro ?_ ?_))
  refine awp_loop [30, 31, 32, 10, 33, 34, 35, 8, 36, 29] (fun k : { k : Nat // k ≤ l.length } => [(29, (true, .int .i64 k.1)), (8, (true, .sl 1 ((lft2 a l k.1).map bxV)))]) (fun _ => _) (fun k => l.length - k.1) ⟨0, by omega⟩ ?_ (HLe.refl _) ?_
  · simp [okAll, okv, lft2, bxV, Sp.row]
  rintro ⟨k, hk⟩
  dsimp only
  by_cases hk1 : k < l.length
  · have hki : (k : Int) < l.length := by omega
    have wk : IntKind.wrap .i64 ((k : Int) + 1) = (k + 1 : Nat) := wrap_id (by omega) (by omega)
    obtain ⟨s, hs⟩ : ∃ s, l[k]? = some s := ⟨_, List.getElem?_eq_getElem hk1⟩
    have hs' : l[k] = s := (List.getElem?_eq_some_iff.1 hs).2
    have hsm : s ∈ l := by rw [← hs']; exact List.getElem_mem hk1
    have hT : lft2 a l (k + 1) = rst2 (lft2 a l k) s := by simp [lft2, List.getD, hs]
    have hrd : decC rsA [.sl 1 ((lft2 a l k).map bxV), .sl 2 [[.int .i64 s.a.lo, .int .i64 s.a.hi], [.int .i64 s.b.lo, .int .i64 s.b.hi]]] = (lft2 a l k, s) := decC_eq rsA_inj (lft2 a l k, s)
    have hrp : RsP (lft2 a l k, s) := ⟨by have := (hm k hk1).1; simp only; omega, (hm k hk1).2, (hl s hsm).bn⟩
    simp -dsimp [hki]
    repeat' (first | omega | (simp -dsimp [E8, ri, cellp, ints, hki, hk1, wk, hs, hs', hrd, hrp, bxV, Sp.row]) | (refine Also.intro ?_ fun _ => ?_) | (refine Hold.intro fun _ => ?_) | (refine And.intro ?_ ?_))
    refine ⟨k + 1, tle_chain rfl ?_, HLe.refl _, by omega, by omega⟩
    simp [okAll, okv, hT]
  · have hkn : ¬ (k : Int) < l.length := by omega
    have hke : k = l.length := by omega
    subst hke
    rw [he]
    simp -dsimp [hkn]
    repeat' (first | omega | (simp -dsimp [E8, ri, cellp, ints, hkn]) | (refine Also.intro ?_ fun _ => ?_) | (refine Hold.intro fun _ => ?_) | (refine And.intro ?_ ?_))
    refine awp_loop [40, 41, 42, 12, 43, 44, 13, 45, 46, 47, 48, 49, 50, 51, 52, 53, 4, 54, 39] (fun _ : Unit => [(39, (true, .int .i64 0)), (4, (true, .nil))]) (fun _ => _) (fun _ => 0) () ?_ (HLe.refl _) ?_
    · simp [okAll, okv]
    rintro ⟨⟩
    simp -dsimp []
    repeat' (first | omega | (simp -dsimp [E8, ri, cellp, ints, *]) | (refine Also.intro ?_ fun _ => ?_) | (refine Hold.intro fun _ => ?_) | (refine And.intro ?_ ?_))
theorem ok8 : FnOK Tryz.prog 8 (.pure cv2S) := pure_fn (E := E8) rfl (.cons ok18 (.cons ok19 .nil)) (ok := []) (fn := Tryz.f8) (by kernel_rfl) (by kernel_rfl) (by kernel_rfl) (by kernel_rfl) rfl (fun _ _ => by simp) b8
end Go.Sx
