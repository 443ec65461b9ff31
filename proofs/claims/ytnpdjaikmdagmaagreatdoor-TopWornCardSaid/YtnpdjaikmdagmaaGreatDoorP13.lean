/- A part of a proof; no conditions. -/
import Derived.Test.YtnpdjaikmdagmaaGreatDoorP12
import Derived.Test.YtnpdjaikmdagmaaGreatDoorP10
set_option linter.unusedSimpArgs false
set_option linter.unusedVariables false
set_option linter.unusedSectionVars false
section
/- Parts: count, Cycles. No conditions. -/
set_option linter.unusedSimpArgs false
set_option maxRecDepth 100000
set_option maxHeartbeats 1000000
namespace Go.Sx
open Go.Proofs
attribute [local irreducible] awp

def countS : HSpec where
  go args h := match args with
    | [.sl z els] => ⟨True, .fn 109 [.bptr 6401 (hnext h 6401) 1 0 0], hpush h 6401 { z := 1, els := [[.sl z els]], ty := 37 }⟩
    | _ => ⟨False, .top, h⟩
noncomputable abbrev E64 : Env := { P := Tryz.prog, fn := tbl [], own := [], key := 6400, nt := 4 }
theorem b64 : HeapBody E64 [] Tryz.f64 countS := by
  intro args h hc
  match args, hc with
  | [.sl z els], hc =>
    have hn := hget_push_new h 6401 { z := 1, els := [[.sl z els]], ty := 37 }
    simp -dsimp [Tryz.f64, E64, countS]
    repeat' (first | omega | (simp -dsimp [E64, ri, cellp, ints, hn]) | (refine Also.intro ?_ fun _ => ?_) | (refine Hold.intro fun _ => ?_) | (refine And.intro ?_ ?_))
theorem ok64 : FnOK Tryz.prog 64 (.heap countS) := heap_fn (E := E64) rfl LOK.nil (ok := []) (fn := Tryz.f64) (by kernel_rfl) (by kernel_rfl) (by kernel_rfl) (by kernel_rfl) rfl (fun args h hc => by match args, hc with | [.sl z els], hc => simp) b64

/-- What Cycles has so far. -/
def outV (s : List (Int × Int)) : V := match s with | [] => .nil | _ => .bsl 3421 0 s.length
def outC (s : List (Int × Int)) : List (Nat × Site) := match s with
  | [] => [(3402, { base := 0, blks := [{ z := 1, els := [[.nil]], ty := 33 }] }), (3421, { base := 0, blks := [] })]
  | s => [(3402, { base := 0, blks := [{ z := 1, els := [[.bsl 3421 0 s.length]], ty := 33, cl := false }] }), (3421, { base := 0, blks := [{ z := 2, els := s.map cycV, ty := 41 }] })]
theorem outC_keys (s : List (Int × Int)) : (outC s).map (·.1) = [3402, 3421] := by cases s <;> rfl
theorem cycV_inj {a b : List (Int × Int)} (h : a.map cycV = b.map cycV) : a = b := by
  induction a generalizing b with
  | nil => cases b with
    | nil => rfl
    | cons => simp at h
  | cons x a ih =>
    cases b with
    | nil => simp at h
    | cons y b =>
      simp only [List.map_cons, List.cons.injEq, cycV, V.int.injEq, true_and, and_true] at h
      rw [ih h.2, Prod.ext h.1.1 h.1.2]
theorem outC_inj (s s' : List (Int × Int)) (h : ∀ k ∈ [3402, 3421], hps (outC s) noH k = hps (outC s') noH k) : s = s' := by
  have h2 := h 3421 (by simp)
  cases s with
  | nil =>
    cases s' with
    | nil => rfl
    | cons y s' => simp [outC, hps] at h2
  | cons x s =>
    cases s' with
    | nil => simp [outC, hps] at h2
    | cons y s' =>
      simp only [outC, hps] at h2
      simp at h2
      have : (x :: s).map cycV = (y :: s').map cycV := by simp [h2]
      exact cycV_inj this
def cycOf (x : List V) : Int × Int := ((x.getD 0 .top).toInt, (x.getD 1 .top).toInt)
theorem cycOf_V (p : Int × Int) : cycOf (cycV p) = p := rfl
abbrev cycPre (s : List (Int × Int)) (x : List V) : Prop := (∃ p, x = cycV p) ∧ s.length ≤ 1000000
theorem cyc_run : ∀ (c s : List (Int × Int)), s.length + c.length ≤ 1000000 → (runS cycPre (fun _ _ => true) (fun s x => s ++ [cycOf x]) s (c.map cycV)).1 ∧ (runS cycPre (fun _ _ => true) (fun s x => s ++ [cycOf x]) s (c.map cycV)).2 = (true, s ++ c)
  | [], s, _ => ⟨trivial, by simp [runS]⟩
  | p :: c, s, h => by
    simp only [List.length_cons] at h
    obtain ⟨h1, h2⟩ := cyc_run c (s ++ [p]) (by simp; omega)
    simp only [List.map_cons, runS, cycOf_V]
    exact ⟨⟨⟨⟨p, rfl⟩, by omega⟩, h1⟩, by rw [h2]; simp⟩
abbrev CyclesS : PSpec := { dom := List Int, enc := fun d => [ints d], dec := fun l => (l.getD 0 .top).toInts, pre := fun d => d.length ≤ 9223372036854775807, res := fun d => .tup [.sl 2 ((if serE d = 0 then cycles d else []).map cycV), .int .i64 (serE d)] }
noncomputable abbrev E34 : Env := { P := Tryz.prog, fn := tbl [(63, .pure serS), (64, .heap countS), (109, .iter cntS)], own := [], key := 3400, nt := 23 }
theorem b34 : PureBody E34 [] Tryz.f34 CyclesS := by
  refine pb ?_
  rintro L hL
  by_cases h0 : serE L = 0
  case neg =>
    simp -dsimp [Tryz.f34, E34, h0]
    repeat' (first | omega | (simp -dsimp [E34, ri, cellp, ints, hL, h0]) | (refine Also.intro ?_ fun _ => ?_) | (refine Hold.intro fun _ => ?_) | (refine And.intro ?_ ?_))
  have hcnt : ∀ H, countS.go [.sl 1 (L.map ri)] H = ⟨True, .fn 109 [.bptr 6401 (hnext H 6401) 1 0 0], hpush H 6401 { z := 1, els := [[.sl 1 (L.map ri)]], ty := 37 }⟩ := fun _ => rfl
  simp -dsimp [Tryz.f34, E34, h0]
  repeat' (first | omega | (simp -dsimp [E34, ri, cellp, ints, hL, h0, hcnt]) | (refine Also.intro ?_ fun _ => ?_) | (refine Hold.intro fun _ => ?_) | (refine And.intro ?_ ?_))
  have hser : L.length ≤ 300 ∧ allB L (-1000000) 1000000 = true := by
    unfold serE at h0
    split at h0
    · cases h0
    · split at h0
      · exact ⟨by omega, by assumption⟩
      · cases h0
  have hbd : Bd L := by
    intro x hx
    have := List.all_eq_true.1 hser.2 x hx
    simp [withinB] at this; omega
  have hcl := cycles_len L
  obtain ⟨hr1, hr2⟩ := cyc_run (cycles L) [] (by simp; omega)
  refine awp_range (LC := outC) (keys := [3402, 3421]) (pre := cycPre) (go := fun _ _ => true) (nxt := fun s x => s ++ [cycOf x]) outC_inj outC_keys [] .normal ((cycles L).map cycV) (own := [10920, 10959, 11232]) (ro := [6401]) (dec := cntDec) rfl (by simp; rfl) rfl (by decide) (by decide) (by decide) ⟨rfl, rfl⟩ ?_ ?_ ?_ hr1 ?_ ?_ ?_
  · intro k hk
    simp at hk
    rcases hk with rfl | rfl <;> rfl
  · intro k hk
    simp at hk
    rcases hk with rfl | rfl | rfl <;> rfl
  · refine ⟨⟨⟨rfl, rfl, rfl, rfl⟩, rfl, L, rfl, by omega, hbd⟩, ?_⟩
    simp [cntDec]
  · rintro s x hb ⟨⟨p, rfl⟩, hs⟩ hy1 hy2
    refine ⟨rfl, ?_⟩
    rw [cycOf_V]
    obtain ⟨p1, p2⟩ := p
    cases s with
    | nil =>
      have hle : HLe (hps [(3402, { base := 0, blks := [{ z := 1, els := [[V.bsl 3421 0 1]], ty := 33, cl := false }] }), (3421, { base := 0, blks := [{ z := 2, els := [[V.int IntKind.i64 p1, V.int IntKind.i64 p2]], ty := 41 }] }), (3402, { base := 0, blks := [{ z := 1, els := [[.nil]], ty := 33 }] }), (3421, { base := 0, blks := [] })] hb) (hps [(3402, { base := 0, blks := [{ z := 1, els := [[V.bsl 3421 0 1]], ty := 33, cl := false }] }), (3421, { base := 0, blks := [{ z := 2, els := [[V.int IntKind.i64 p1, V.int IntKind.i64 p2]], ty := 41 }] })] hb) := (by (try simp -dsimp only [hpush_noH, hpush_hps, hps_over]); refine hle_hpsb ?_; simp -dsimp [allK, ]; repeat' (first | (refine And.intro ?_ ?_) | (refine sLe.same ?_ ?_ <;> (simp; done)) | (refine sLe.clear ?_ ?_ <;> (first | (simp; done) | (simp; omega))) | (refine sLe.drop 1 ?_ ?_ ?_ <;> (simp; done))))
      simp -dsimp [E34, setT, cycV, outC]
      repeat' (first | omega | (simp -dsimp [E34, ri, cellp, ints, cycV, hle]) | (refine Also.intro ?_ fun _ => ?_) | (refine Hold.intro fun _ => ?_) | (refine And.intro ?_ ?_))
    | cons y s =>
      have hb16 : (s.length + 1 + 1) * 16 ≤ 140737488355328 := by simp at hs; omega
      have hle : HLe (hps [(3402, { base := 0, blks := [{ z := 1, els := [[V.bsl 3421 0 (s.length + 1 + 1)]], ty := 33, cl := false }] }), (3421, { base := 0, blks := [{ z := 2, els := [V.int IntKind.i64 y.1, V.int IntKind.i64 y.2] :: (s.map cycV ++ [[V.int IntKind.i64 p1, V.int IntKind.i64 p2]]), ty := 41 }] }), (3402, { base := 0, blks := [{ z := 1, els := [[V.bsl 3421 0 (s.length + 1)]], ty := 33, cl := false }] }), (3421, { base := 0, blks := [{ z := 2, els := [V.int IntKind.i64 y.1, V.int IntKind.i64 y.2] :: s.map cycV, ty := 41 }] })] hb) (hps [(3402, { base := 0, blks := [{ z := 1, els := [[V.bsl 3421 0 (s.length + 1 + 1)]], ty := 33, cl := false }] }), (3421, { base := 0, blks := [{ z := 2, els := [V.int IntKind.i64 y.1, V.int IntKind.i64 y.2] :: (s.map cycV ++ [[V.int IntKind.i64 p1, V.int IntKind.i64 p2]]), ty := 41 }] })] hb) := (by (try simp -dsimp only [hpush_noH, hpush_hps, hps_over]); refine hle_hpsb ?_; simp -dsimp [allK, ]; repeat' (first | (refine And.intro ?_ ?_) | (refine sLe.same ?_ ?_ <;> (simp; done)) | (refine sLe.clear ?_ ?_ <;> (first | (simp; done) | (simp; omega))) | (refine sLe.drop 1 ?_ ?_ ?_ <;> (simp; done))))
      simp -dsimp [E34, setT, cycV, outC]
      repeat' (first | omega | (simp -dsimp [E34, ri, cellp, ints, cycV, hb16, hle]) | (refine Also.intro ?_ fun _ => ?_) | (refine Hold.intro fun _ => ?_) | (refine And.intro ?_ ?_))
  · intro _
    rw [hr2]
    simp only [List.nil_append]
    cases hC : cycles L with
    | nil =>
      simp -dsimp [outC, hps_app]
      repeat' (first | omega | (simp -dsimp [E34, ri, cellp, ints, outC, hC]) | (refine Also.intro ?_ fun _ => ?_) | (refine Hold.intro fun _ => ?_) | (refine And.intro ?_ ?_))
    | cons y s =>
      simp -dsimp [outC, hps_app]
      repeat' (first | omega | (simp -dsimp [E34, ri, cellp, ints, outC, hC]) | (refine Also.intro ?_ fun _ => ?_) | (refine Hold.intro fun _ => ?_) | (refine And.intro ?_ ?_))
  · intro h
    rw [hr2] at h; cases h
theorem ok34 : FnOK Tryz.prog 34 (.pure CyclesS) := pure_fn (E := E34) rfl (.cons ok63 (.cons ok64 (.cons ok109 .nil))) (ok := []) (fn := Tryz.f34) (by kernel_rfl) (by kernel_rfl) (by kernel_rfl) (by kernel_rfl) rfl (fun _ _ => by simp) b34
end Go.Sx
end
section
/- Parts: turning points as the reference finds them, in plain Lean. No conditions. -/
set_option linter.unusedSimpArgs false
namespace Go.Sx

/-- Without loads that are equal to the one before. -/
def dd (l : List Int) : Nat → List Int
  | 0 => []
  | k + 1 => if k = 0 ∨ l.getD k 0 ≠ l.getD (k - 1) 0 then dd l k ++ [l.getD k 0] else dd l k
def tt (p : List Int) : Nat → List Int
  | 0 => []
  | k + 1 => if k = 0 ∨ k + 1 = p.length ∨ decide (p.getD (k - 1) 0 < p.getD k 0) ≠ decide (p.getD k 0 < p.getD (k + 1) 0) then tt p k ++ [p.getD k 0] else tt p k
theorem dd_len (l : List Int) : ∀ k, (dd l k).length ≤ k
  | 0 => by simp [dd]
  | k + 1 => by
    have := dd_len l k
    rw [dd]
    split
    · simp; omega
    · omega
theorem tt_len (l : List Int) : ∀ k, (tt l k).length ≤ k
  | 0 => by simp [tt]
  | k + 1 => by
    have := tt_len l k
    rw [tt]
    split
    · simp; omega
    · omega
theorem getD_snoc {d : List Int} {x : Int} {i : Nat} (h : i < d.length) : (d ++ [x]).getD i 0 = d.getD i 0 := by
  simp only [List.getD, List.getElem?_append_left h]
theorem getD_end {d : List Int} {x : Int} : (d ++ [x]).getD d.length 0 = x := by
  simp [List.getD]
theorem tt_snoc (d : List Int) (x : Int) : ∀ k, k + 1 ≤ d.length → tt (d ++ [x]) k = tt d k
  | 0, _ => rfl
  | k + 1, h => by
    rw [tt, tt, tt_snoc d x k (by omega), getD_snoc (by omega), getD_snoc (by omega), getD_snoc (by omega)]
    have e1 : (k + 1 = (d ++ [x]).length) = False := eq_false (by simp; omega)
    have e2 : (k + 1 = d.length) = False := eq_false (by omega)
    simp only [e1, e2]
theorem tt_last (d : List Int) (h : 0 < d.length) : tt d d.length = tt d (d.length - 1) ++ [d.getD (d.length - 1) 0] := by
  obtain ⟨n, hn⟩ : ∃ n, d.length = n + 1 := ⟨d.length - 1, by omega⟩
  rw [hn, tt, if_pos (.inr (.inl hn.symm))]
  rfl
theorem tpush_snoc (c : List Int) (y x : Int) (h : y ≠ x) : tpush (c ++ [y]) x = if c ≠ [] ∧ decide (c.getD (c.length - 1) 0 < y) = decide (y < x) then c ++ [x] else c ++ [y, x] := by
  unfold tpush
  have hl : (c ++ [y]).length = c.length + 1 := by simp
  rw [hl, Nat.add_sub_cancel, getD_end]
  rw [if_neg (fun hh => h hh.2)]
  by_cases hc : c = []
  · subst hc
    simp
  · have hp := List.length_pos_iff.2 hc
    have e : c.length + 1 - 2 = c.length - 1 := by omega
    rw [e, getD_snoc (by omega)]
    by_cases hd : decide (c.getD (c.length - 1) 0 < y) = decide (y < x)
    · rw [if_pos ⟨by omega, hd⟩, if_pos ⟨hc, hd⟩]
      rw [List.set_append_right _ _ (Nat.le_refl _)]
      simp
    · rw [if_neg (fun hh => hd hh.2), if_neg (fun hh => hd hh.2)]
      simp
theorem turning_at (l : List Int) : ∀ k, k ≤ l.length → (0 < k → 0 < (dd l k).length ∧ (dd l k).getD ((dd l k).length - 1) 0 = l.getD (k - 1) 0) ∧
    turn (l.take k) = tt (dd l k) (dd l k).length ∧
    (2 ≤ (dd l k).length → tt (dd l k) ((dd l k).length - 1) ≠ [] ∧ decide ((tt (dd l k) ((dd l k).length - 1)).getD ((tt (dd l k) ((dd l k).length - 1)).length - 1) 0 < (dd l k).getD ((dd l k).length - 1) 0) = decide ((dd l k).getD ((dd l k).length - 2) 0 < (dd l k).getD ((dd l k).length - 1) 0))
  | 0, _ => by simp [dd, tt, turn]
  | k + 1, h => by
    obtain ⟨h1, h2, h3⟩ := turning_at l k (by omega)
    have hT := turn_take l (k := k) (by omega)
    have hg : l.getD k 0 = l[k] := by simp [List.getD, List.getElem?_eq_getElem (show k < l.length by omega)]
    rw [← hg] at hT
    rw [hT, h2, dd]
    by_cases hk0 : k = 0
    · subst hk0
      simp [dd, tt, tpush]
    obtain ⟨hp, hl⟩ := h1 (by omega)
    rw [Nat.add_sub_cancel]
    generalize hx : l.getD k 0 = x at *
    rw [← hl] 
    generalize hd : dd l k = d at *
    rw [tt_last d hp]
    generalize hy : d.getD (d.length - 1) 0 = y at *
    by_cases hxy : x = y
    · rw [if_neg (fun hh => by rcases hh with hh | hh; exact hk0 hh; exact hh hxy)]
      subst hxy
      refine ⟨fun _ => ⟨hp, hy⟩, ?_, ?_⟩
      · unfold tpush
        rw [List.length_append, List.length_singleton, Nat.add_sub_cancel, getD_end, if_pos ⟨by omega, rfl⟩, tt_last d hp, hy]
      · rw [hy]; exact h3
    rw [if_pos (.inr hxy)]
    have hl1 : (d ++ [x]).length = d.length + 1 := by simp
    have e1 : tt (d ++ [x]) d.length = if d.length = 1 ∨ decide (d.getD (d.length - 2) 0 < y) ≠ decide (y < x) then tt d (d.length - 1) ++ [y] else tt d (d.length - 1) := by
      obtain ⟨n, hn⟩ : ∃ n, d.length = n + 1 := ⟨d.length - 1, by omega⟩
      rw [hn, tt, tt_snoc d x n (by omega), getD_snoc (by omega), getD_snoc (by omega)]
      have e2 : (d ++ [x]).getD (n + 1) 0 = x := by rw [← hn]; exact getD_end
      have e3 : d.getD n 0 = y := by rw [← hy, hn]; rfl
      have e4 : (n + 1 = (d ++ [x]).length) = False := eq_false (by omega)
      rw [e2, e3]
      simp only [e4, false_or, Nat.add_sub_cancel, show n + 1 - 2 = n - 1 by omega, show (n + 1 = 1) = (n = 0) by simp]
    have e0 : tt (d ++ [x]) (d.length + 1) = tt (d ++ [x]) d.length ++ [x] := by
      have := tt_last (d ++ [x]) (by omega)
      rw [hl1, Nat.add_sub_cancel, getD_end] at this
      exact this
    rw [hl1, e0, Nat.add_sub_cancel, getD_end, tpush_snoc _ _ _ (fun hh => hxy hh.symm), e1]
    refine ⟨fun _ => ⟨by omega, rfl⟩, ?_, ?_⟩
    · by_cases hn1 : d.length = 1
      · have ht : tt d (d.length - 1) = [] := by rw [hn1]; rfl
        rw [ht, if_neg (fun hh => hh.1 rfl), if_pos (.inl hn1)]
        rfl
      · obtain ⟨k1, k2⟩ := h3 (by omega)
        by_cases hc : decide (d.getD (d.length - 2) 0 < y) = decide (y < x)
        · rw [if_pos ⟨k1, by rw [k2, hc]⟩, if_neg (fun hh => by rcases hh with hh | hh; exact hn1 hh; exact hh hc)]
        · rw [if_neg (fun hh => hc (by rw [← k2, hh.2])), if_pos (.inr hc)]
          simp
    · intro _
      have e5 : (d ++ [x]).getD (d.length + 1 - 2) 0 = y := by rw [getD_snoc (by omega), ← hy]; rfl
      rw [e5]
      by_cases hn1 : d.length = 1 ∨ decide (d.getD (d.length - 2) 0 < y) ≠ decide (y < x)
      · rw [if_pos hn1]
        refine ⟨by simp, ?_⟩
        rw [List.length_append, List.length_singleton, Nat.add_sub_cancel, getD_end]
      · rw [if_neg hn1]
        simp only [not_or, Classical.not_not, ne_eq] at hn1
        obtain ⟨k1, k2⟩ := h3 (by omega)
        refine ⟨k1, ?_⟩
        rw [hn1.2] at k2
        generalize (tt d (d.length - 1)).getD ((tt d (d.length - 1)).length - 1) 0 = c at *
        have : (c < y) ↔ (y < x) := by simpa using k2
        simp only [decide_eq_decide]
        omega
theorem turn_tt (l : List Int) : turn l = tt (dd l l.length) (dd l l.length).length := by
  have := (turning_at l l.length (Nat.le_refl _)).2.1
  rwa [List.take_length] at this
end Go.Sx
end
section
/- Parts: the reference's turning points; same lists. No conditions. -/
set_option linter.unusedSimpArgs false
set_option maxRecDepth 100000
set_option maxHeartbeats 1000000
namespace Go.Sx
open Go.Proofs
attribute [local irreducible] awp

abbrev sameS : PSpec := { dom := List Int × List Int, enc := fun d => [ints d.1, ints d.2], dec := fun l => ((l.getD 0 .top).toInts, (l.getD 1 .top).toInts), pre := fun d => d.1.length ≤ 9223372036854775807 ∧ d.2.length ≤ 9223372036854775807, res := fun d => .bool (decide (d.1 = d.2)) }
def prs (l : List (Int × Int)) : V := .sl 2 (l.map cycV)
def _root_.Go.Sx.V.toPrs (v : V) : List (Int × Int) := v.rows.map cycOf
@[simp] theorem toPrs_prs (l : List (Int × Int)) : (prs l).toPrs = l := by
  simp only [prs, V.toPrs, V.rows, List.map_map]
  exact (List.map_congr_left (fun p _ => cycOf_V p)).trans (List.map_id l)
abbrev samePS : PSpec := { dom := List (Int × Int) × List (Int × Int), enc := fun d => [prs d.1, prs d.2], dec := fun l => ((l.getD 0 .top).toPrs, (l.getD 1 .top).toPrs), pre := fun d => d.1.length ≤ 9223372036854775807 ∧ d.2.length ≤ 9223372036854775807, res := fun d => .bool (decide (d.1 = d.2)) }
noncomputable abbrev E35 : Env := { P := Tryz.prog, fn := tbl [], own := [], key := 3500, nt := 26 }
theorem b35 : PureBody E35 [] Tryz.f35 samePS := by
  refine pb ?_
  rintro ⟨a, b⟩ ⟨p1, p2⟩
  simp only at p1 p2
  by_cases hl : a.length = b.length
  case neg =>
    have hne : ¬ a = b := fun e => hl (by rw [e])
    have hl' : ¬ (a.length : Int) = b.length := by omega
    simp -dsimp [Tryz.f35, E35, prs, hl']
    repeat' (first | omega | (simp -dsimp [E35, ri, cellp, ints, hl', hne]) | (refine Also.intro ?_ fun _ => ?_) | (refine Hold.intro fun _ => ?_) | (refine And.intro ?_ ?_))
  have hl' : (a.length : Int) = b.length := by omega
  simp -dsimp [Tryz.f35, E35, prs, hl']
  refine awp_loop [11, 12, 13, 14, 17, 18, 19, 20, 21, 22, 23, 24, 25, 4, 15, 16, 5]
    (fun k : { k : Nat // k ≤ a.length ∧ ∀ i (h1 : i < a.length) (h2 : i < b.length), i < k → a[i] = b[i] } => [(5, (true, .int .i64 (k.1 : Nat)))])
    (fun k => noH) (fun k => a.length - k.1) ⟨0, by omega, fun _ _ _ h => by omega⟩ ?_ (HLe.refl _) ?_
  · simp [okAll, okv]
  rintro ⟨k, hk, he⟩
  simp only
  by_cases hk1 : k < a.length
  · have hk2 : k < b.length := by omega
    have w1 : IntKind.wrap .i64 ((k : Int) + 1) = (k + 1 : Nat) := wrap_id (by omega) (by omega)
    by_cases hx : a[k] = b[k]
    · simp -dsimp [hk1, hk2, hx, cycV]
      repeat' (first | omega | (simp -dsimp [E35, ri, cellp, ints, hk1, hk2, hx, w1, cycV]) | (refine Also.intro ?_ fun _ => ?_) | (refine Hold.intro fun _ => ?_) | (refine And.intro ?_ ?_))
      refine ⟨k + 1, tle_chain rfl ?_, HLe.refl _, ⟨hk1, fun i h1 h2 hi => ?_⟩, by omega⟩
      · simp [okAll, okv]
      · by_cases e : i = k
        · subst e; exact hx
        · exact he i h1 h2 (by omega)
    · have hne : ¬ a = b := fun e => hx (by simp [e])
      have hx2 : ((a[k].1 == b[k].1) && (a[k].2 == b[k].2)) = false := by
        cases h : ((a[k].1 == b[k].1) && (a[k].2 == b[k].2)) with
        | false => rfl
        | true =>
          simp only [Bool.and_eq_true, beq_iff_eq] at h
          exact absurd (Prod.ext h.1 h.2) hx
      simp -dsimp [hk1, hk2, hx2, cycV]
      repeat' (first | omega | (simp -dsimp [E35, ri, cellp, ints, hk1, hk2, hx2, w1, hne, cycV]) | (refine Also.intro ?_ fun _ => ?_) | (refine Hold.intro fun _ => ?_) | (refine And.intro ?_ ?_))
  · have hkb : ¬ k < b.length := by omega
    have heq : a = b := List.ext_getElem hl fun i h1 h2 => he i h1 h2 (by omega)
    simp -dsimp [hk1, hkb]
    repeat' (first | omega | (simp -dsimp [E35, ri, cellp, ints, hk1, hkb, heq]) | (refine Also.intro ?_ fun _ => ?_) | (refine Hold.intro fun _ => ?_) | (refine And.intro ?_ ?_))
theorem ok35 : FnOK Tryz.prog 35 (.pure samePS) := pure_fn (E := E35) rfl LOK.nil (ok := []) (fn := Tryz.f35) (by kernel_rfl) (by kernel_rfl) (by kernel_rfl) (by kernel_rfl) rfl (fun _ _ => by simp) b35
end Go.Sx
end
section
/- Parts: the hangar as a state, and how the heap holds it. No conditions. -/
set_option linter.unusedSimpArgs false
set_option linter.unusedSectionVars false
namespace Go.Sx

structure Kd where
  hours : Int
  cycles : Int
  places : Int
  deriving DecidableEq, Inhabited
structure Pt where
  kind : Int
  hours : Int
  cycles : Int
  known : Bool
  deriving DecidableEq, Inhabited
structure Od where
  kind : Int
  within : Int
  deriving DecidableEq, Inhabited
structure Wk where
  kind : Int
  a : Int
  b : Int
  c : Int
  deriving DecidableEq, Inhabited
structure Stt where
  machine : Int
  place : Int
  fro : Int
  to : Int
  hours : Int
  cycles : Int
  deriving DecidableEq, Inhabited
structure Reg where
  kinds : List Kd
  parts : List Pt
  machines : Int
  orders : List Od
  deriving Inhabited
/-- A part as it stands. -/
structure PS where
  kind : Int
  hours : Int
  cycles : Int
  known : Bool
  a : Int
  b : Int
  since : List Int
  chk : List Bool
  deriving Inhabited
/-- A register with its works. -/
structure HG where
  r : Reg
  ps : List PS
  iss : List Bool
  fl : List (Int × Int)
  wk : Int
  hi : List (Option (Nat × Nat))
  hb : List (List Stt)
  hcl : Bool
  deriving Inhabited

def Kd.row (k : Kd) : List V := [.int .i64 k.hours, .int .i64 k.cycles, .int .i64 k.places]
def Pt.row (p : Pt) : List V := [.int .i64 p.kind, .int .i64 p.hours, .int .i64 p.cycles, .bool p.known]
def Od.row (o : Od) : List V := [.int .i64 o.kind, .int .i64 o.within]
def Wk.row (w : Wk) : List V := [.int .i64 w.kind, .int .i64 w.a, .int .i64 w.b, .int .i64 w.c]
def Stt.row (t : Stt) : List V := [.int .i64 t.machine, .int .i64 t.place, .int .i64 t.fro, .int .i64 t.to, .int .i64 t.hours, .int .i64 t.cycles]
def Reg.row (r : Reg) : List V := [.sl 3 (r.kinds.map Kd.row), .sl 4 (r.parts.map Pt.row), .int .i64 r.machines, .sl 2 (r.orders.map Od.row)]
def rb (b : Bool) : List V := [.bool b]
/-- The list of the parts: nil if there are none. -/
def ptsV (n : Nat) : V := if n = 0 then .nil else .bsl 4945 0 n
def ptsB (n : Nat) : List Blk := if n = 0 then [] else [{ z := 1, els := (List.range n).map fun k => [.bptr 4943 k 1 0 0], ty := 87, cl := false }]
def hiV : Option (Nat × Nat) → V
  | none => .nil
  | some (i, n) => .bsl 8915 i n
def PS.row (p : PS) (k : Nat) : List V := [.int .i64 p.kind, .int .i64 p.hours, .int .i64 p.cycles, .bool p.known, .int .i64 p.a, .int .i64 p.b, .bsl 4937 k p.since.length, .bsl 4941 k p.chk.length]
def PS.blk (k : Nat) (p : PS) : Blk := { z := 8, els := [p.row k], ty := 89, cl := false }
def HG.row (s : HG) : List V := [.sl 3 (s.r.kinds.map Kd.row), .sl 4 (s.r.parts.map Pt.row), .int .i64 s.r.machines, .sl 2 (s.r.orders.map Od.row), ptsV s.ps.length, .bsl 4910 0 s.iss.length, .bsl 4913 0 s.fl.length, .int .i64 s.wk, .bsl 4917 0 s.hi.length]
def sinB (p : PS) : Blk := { z := 1, els := p.since.map ri, ty := 3 }
def chkB (p : PS) : Blk := { z := 1, els := p.chk.map rb, ty := 4 }
def hbB (l : List Stt) : Blk := { z := 6, els := l.map Stt.row, ty := 51 }
def hgL (s : HG) : List (Nat × Site) :=
  [(4919, { base := 0, blks := [{ z := 9, els := [s.row], ty := 74, cl := false }] }),
   (4945, { base := 0, blks := ptsB s.ps.length }),
   (4943, { base := 0, blks := s.ps.mapIdx PS.blk }),
   (4937, { base := 0, blks := s.ps.map sinB }),
   (4941, { base := 0, blks := s.ps.map chkB }),
   (4910, { base := 0, blks := [{ z := 1, els := s.iss.map rb, ty := 4 }] }),
   (4913, { base := 0, blks := [{ z := 2, els := s.fl.map cycV, ty := 83 }] }),
   (4917, { base := 0, blks := [{ z := 1, els := s.hi.map fun o => [hiV o], ty := 47, cl := s.hcl }] }),
   (8915, { base := 0, blks := s.hb.map hbB })]
abbrev hkeys : List Nat := [4919, 4945, 4943, 4937, 4941, 4910, 4913, 4917, 8915]
theorem hgL_keys (s : HG) : (hgL s).map (·.1) = hkeys := rfl

section inj
theorem map_inj {α β : Type} {f : α → β} (hf : ∀ a b, f a = f b → a = b) : ∀ {l l' : List α}, l.map f = l'.map f → l = l'
  | [], [], _ => rfl
  | [], _ :: _, h => by simp at h
  | _ :: _, [], h => by simp at h
  | a :: l, b :: l', h => by
    simp only [List.map_cons, List.cons.injEq] at h
    rw [hf _ _ h.1, map_inj hf h.2]
theorem Kd.row_inj (a b : Kd) (h : a.row = b.row) : a = b := by
  cases a; cases b; simp [Kd.row] at h; simp [h]
theorem Pt.row_inj (a b : Pt) (h : a.row = b.row) : a = b := by
  cases a; cases b; simp [Pt.row] at h; simp [h]
theorem Od.row_inj (a b : Od) (h : a.row = b.row) : a = b := by
  cases a; cases b; simp [Od.row] at h; simp [h]
theorem Wk.row_inj (a b : Wk) (h : a.row = b.row) : a = b := by
  cases a; cases b; simp [Wk.row] at h; simp [h]
theorem Stt.row_inj (a b : Stt) (h : a.row = b.row) : a = b := by
  cases a; cases b; simp [Stt.row] at h; simp [h]
theorem rb_inj (a b : Bool) (h : rb a = rb b) : a = b := by simpa [rb] using h
theorem cycR_inj (a b : Int × Int) (h : cycV a = cycV b) : a = b := by
  cases a; cases b; simp [cycV] at h; simp [h]
theorem hiV_inj (a b : Option (Nat × Nat)) (h : [hiV a] = [hiV b]) : a = b := by
  cases a with
  | none => cases b with
    | none => rfl
    | some b => simp [hiV] at h
  | some a => cases b with
    | none => simp [hiV] at h
    | some b => simp [hiV] at h; simp [Prod.ext_iff, h]
theorem Reg.row_inj (a b : Reg) (h : a.row = b.row) : a = b := by
  cases a; cases b
  simp only [Reg.row, List.cons.injEq, V.sl.injEq, V.int.injEq, true_and, and_true] at h
  simp only [Reg.mk.injEq]
  exact ⟨map_inj Kd.row_inj h.1, map_inj Pt.row_inj h.2.1, h.2.2.1, map_inj Od.row_inj h.2.2.2⟩
theorem hgL_inj (s s' : HG) (h : ∀ k ∈ hkeys, hps (hgL s) noH k = hps (hgL s') noH k) : s = s' := by
  have h1 := h 4919 (by simp)
  have h3 := h 4943 (by simp)
  have h4 := h 4937 (by simp)
  have h5 := h 4941 (by simp)
  have h6 := h 4910 (by simp)
  have h7 := h 4913 (by simp)
  have h8 := h 4917 (by simp)
  have h9 := h 8915 (by simp)
  clear h
  have e1 : s.row = s'.row := by
    have := congrArg Site.blks h1
    simpa [hgL, hps_cons] using this
  have e3 : s.ps.mapIdx PS.blk = s'.ps.mapIdx PS.blk := congrArg Site.blks h3
  have e4 : s.ps.map sinB = s'.ps.map sinB := congrArg Site.blks h4
  have e5 : s.ps.map chkB = s'.ps.map chkB := congrArg Site.blks h5
  have e6 : s.iss.map rb = s'.iss.map rb := by
    have := congrArg Site.blks h6
    simpa [hgL, hps_cons] using this
  have e7 : s.fl.map cycV = s'.fl.map cycV := by
    have := congrArg Site.blks h7
    simpa [hgL, hps_cons] using this
  have e8 : (s.hi.map fun o => [hiV o]) = (s'.hi.map fun o => [hiV o]) := by
    have := congrArg Site.blks h8
    simp only [hgL, hps_cons] at this
    simp at this
    exact this.1
  have e10 : s.hcl = s'.hcl := by
    have := congrArg Site.blks h8
    simp only [hgL, hps_cons] at this
    simp at this
    exact this.2
  have e9 : s.hb.map hbB = s'.hb.map hbB := congrArg Site.blks h9
  clear h1 h3 h4 h5 h6 h7 h8 h9
  obtain ⟨r, ps, iss, fl, wk, hi, hb, hcl⟩ := s
  obtain ⟨r', ps', iss', fl', wk', hi', hb', hcl'⟩ := s'
  simp only at *
  simp only [HG.row, List.cons.injEq] at e1
  obtain ⟨a1, a2, a3, a4, a5, a6, a7, a8, a9⟩ := e1
  have er : r = r' := Reg.row_inj _ _ (by simp only [Reg.row, a1, a2, a3, a4])
  have ehb : hb = hb' := map_inj (f := hbB) (fun a b h => map_inj Stt.row_inj (by simpa [hbB] using congrArg Blk.els h)) e9
  simp only [HG.mk.injEq]
  refine ⟨er, ?_, map_inj rb_inj e6, map_inj cycR_inj e7, ?_, map_inj hiV_inj e8, ehb, e10⟩
  · refine List.ext_getElem? fun i => ?_
    have x3 := congrArg (·[i]?) e3
    have x4 := congrArg (·[i]?) e4
    have x5 := congrArg (·[i]?) e5
    simp only [List.getElem?_mapIdx, List.getElem?_map] at x3 x4 x5
    cases hp : ps[i]? with
    | none => cases hp' : ps'[i]? with
      | none => rfl
      | some p' => rw [hp, hp'] at x3; simp at x3
    | some p => cases hp' : ps'[i]? with
      | none => rw [hp, hp'] at x3; simp at x3
      | some p' =>
        rw [hp, hp'] at x3 x4 x5
        simp only [Option.map_some, Option.some.injEq, PS.blk, PS.row, sinB, chkB, Blk.mk.injEq, List.cons.injEq, V.int.injEq, V.bool.injEq] at x3 x4 x5
        have y4 := map_ri_inj x4.2.1
        have y5 := map_inj rb_inj x5.2.1
        cases p; cases p'
        simp_all
  · simp only [V.int.injEq] at a8; exact a8.2
end inj

section rw
variable [Gls]
variable (s : HG) (h : Hp)
@[simp] theorem g4919 : Ob hgL s h 4919 = { base := 0, blks := [{ z := 9, els := [[.sl 3 (s.r.kinds.map Kd.row), .sl 4 (s.r.parts.map Pt.row), .int .i64 s.r.machines, .sl 2 (s.r.orders.map Od.row), ptsV s.ps.length, .bsl 4910 0 s.iss.length, .bsl 4913 0 s.fl.length, .int .i64 s.wk, .bsl 4917 0 s.hi.length]], ty := 74, cl := false }] } := rfl
@[simp] theorem g4945 : Ob hgL s h 4945 = { base := 0, blks := ptsB s.ps.length } := rfl
@[simp] theorem g4943 : Ob hgL s h 4943 = { base := 0, blks := s.ps.mapIdx PS.blk } := rfl
@[simp] theorem g4937 : Ob hgL s h 4937 = { base := 0, blks := s.ps.map sinB } := rfl
@[simp] theorem g4941 : Ob hgL s h 4941 = { base := 0, blks := s.ps.map chkB } := rfl
@[simp] theorem g4910 : Ob hgL s h 4910 = { base := 0, blks := [{ z := 1, els := s.iss.map rb, ty := 4 }] } := rfl
@[simp] theorem g4913 : Ob hgL s h 4913 = { base := 0, blks := [{ z := 2, els := s.fl.map cycV, ty := 83 }] } := rfl
@[simp] theorem g4917 : Ob hgL s h 4917 = { base := 0, blks := [{ z := 1, els := s.hi.map fun o => [hiV o], ty := 47, cl := s.hcl }] } := rfl
@[simp] theorem g8915 : Ob hgL s h 8915 = { base := 0, blks := s.hb.map hbB } := rfl
@[simp] theorem g_ne {k : Nat} (hn : hkeys.contains k = false) : Ob hgL s h k = h k := ob_ne hgL_keys hn
@[simp] theorem g_g (s' : HG) : Ob hgL s (Ob hgL s' h) = Ob hgL s h := ob_ob hgL_keys _ _ _
@[simp] theorem g_hget (k i : Nat) : hget (Ob hgL s h) k i = if i < (Ob hgL s h k).base then none else (Ob hgL s h k).blks[i - (Ob hgL s h k).base]? := rfl
@[simp] theorem g_hnext (k : Nat) : hnext (Ob hgL s h) k = (Ob hgL s h k).base + (Ob hgL s h k).blks.length := rfl
@[simp] theorem g_hpush {k : Nat} (hn : hkeys.contains k = false) (B : Blk) : hpush (Ob hgL s h) k B = Ob hgL s (hpush h k B) := ob_hpush hgL_keys hn B
theorem g_hset {k i : Nat} (hn : hkeys.contains k = false) (B : Blk) : hset (Ob hgL s h) k i B = Ob hgL s (hset h k i B) := ob_hset hgL_keys hn B
@[simp] theorem g_over {k : Nat} {S : Site} {L : List (Nat × Site)} (hn : (((k, S) :: L).all fun p => !hkeys.contains p.1) = true) : hps ((k, S) :: L) (Ob hgL s h) = Ob hgL s (hps ((k, S) :: L) h) := ob_over hgL_keys hn
end rw
theorem hps_nil' (h : Hp) : hps [] h = h := rfl
@[simp high] theorem len_ptsV (n : Nat) : (ptsV n).len = some n := by
  unfold ptsV; split
  · rename_i e; subst e; rfl
  · rfl
theorem ptsV_ne {n : Nat} (h : 0 < n) : ptsV n = .bsl 4945 0 n := by unfold ptsV; rw [if_neg (by omega)]
theorem ptsB_ne {n : Nat} (h : 0 < n) : ptsB n = [{ z := 1, els := (List.range n).map fun k => [.bptr 4943 k 1 0 0], ty := 87, cl := false }] := by unfold ptsB; rw [if_neg (by omega)]
theorem mapIdx_get {ps : List PS} {k : Nat} {p : PS} (h : ps[k]? = some p) : (ps.mapIdx PS.blk)[k]? = some { z := 8, els := [[.int .i64 p.kind, .int .i64 p.hours, .int .i64 p.cycles, .bool p.known, .int .i64 p.a, .int .i64 p.b, .bsl 4937 k p.since.length, .bsl 4941 k p.chk.length]], ty := 89, cl := false } := by
  rw [List.getElem?_mapIdx, h]; rfl
section wr
variable [Gls] {s : HG} {h : Hp} {i j : Nat} {p : PS}
theorem set_id {α : Type} {l : List α} {i : Nat} {x : α} (h : l[i]? = some x) : l.set i x = l := by
  refine List.ext_getElem? fun n => ?_
  rw [List.getElem?_set]
  split
  · rename_i e; subst e; split
    · exact h.symm
    · rename_i e2; rw [List.getElem?_eq_none (by omega)]
  · rfl
theorem map_set_id {α β : Type} {f : α → β} {l : List α} {i : Nat} {x y : α} (h : l[i]? = some x) (e : f y = f x) : (l.set i y).map f = l.map f := by
  rw [List.map_set, e, set_id (by rw [List.getElem?_map, h]; rfl)]
theorem w_part (hp : s.ps[i]? = some p) (a b c e f : Int) (d : Bool) :
    hset (Ob hgL s h) 4943 i { z := 8, els := [[.int .i64 a, .int .i64 b, .int .i64 c, .bool d, .int .i64 e, .int .i64 f, .bsl 4937 i p.since.length, .bsl 4941 i p.chk.length]], ty := 89, fz := false, cl := false } = Ob hgL { s with ps := s.ps.set i ⟨a, b, c, d, e, f, p.since, p.chk⟩ } h := by
  refine ob_write hgL_keys (by simp) (fun k hk hne => ?_) ?_
  · simp only [hkeys, List.mem_cons, List.not_mem_nil, or_false] at hk
    rcases hk with rfl | rfl | rfl | rfl | rfl | rfl | rfl | rfl | rfl <;> simp at hne ⊢
    · exact set_id (by rw [List.getElem?_map, hp]; rfl)
    · exact set_id (by rw [List.getElem?_map, hp]; rfl)
  · simp only [g4943, Nat.sub_zero]
    rw [List.mapIdx_set]
    rfl
theorem w_since (hp : s.ps[i]? = some p) (x : Int) :
    hset (Ob hgL s h) 4937 i { z := 1, els := (p.since.map ri).set j [.int .i64 x], ty := 3, fz := false, cl := true } = Ob hgL { s with ps := s.ps.set i { p with since := p.since.set j x } } h := by
  refine ob_write hgL_keys (by simp) (fun k hk hne => ?_) ?_
  · simp only [hkeys, List.mem_cons, List.not_mem_nil, or_false] at hk
    rcases hk with rfl | rfl | rfl | rfl | rfl | rfl | rfl | rfl | rfl <;> simp at hne ⊢
    · exact set_id (by rw [mapIdx_get hp]; simp [PS.blk, PS.row])
    · exact set_id (by rw [List.getElem?_map, hp]; rfl)
  · simp only [g4937, Nat.sub_zero, List.map_set, sinB, ri]
theorem w_chk (hp : s.ps[i]? = some p) (x : Bool) :
    hset (Ob hgL s h) 4941 i { z := 1, els := (p.chk.map rb).set j [.bool x], ty := 4, fz := false, cl := true } = Ob hgL { s with ps := s.ps.set i { p with chk := p.chk.set j x } } h := by
  refine ob_write hgL_keys (by simp) (fun k hk hne => ?_) ?_
  · simp only [hkeys, List.mem_cons, List.not_mem_nil, or_false] at hk
    rcases hk with rfl | rfl | rfl | rfl | rfl | rfl | rfl | rfl | rfl <;> simp at hne ⊢
    · exact set_id (by rw [mapIdx_get hp]; simp [PS.blk, PS.row])
    · exact set_id (by rw [List.getElem?_map, hp]; rfl)
  · simp only [g4941, Nat.sub_zero, List.map_set, chkB, rb]
theorem w_iss (x : Bool) :
    hset (Ob hgL s h) 4910 0 { z := 1, els := (s.iss.map rb).set j [.bool x], ty := 4, fz := false, cl := true } = Ob hgL { s with iss := s.iss.set j x } h := by
  refine ob_write hgL_keys (by simp) (fun k hk hne => ?_) ?_
  · simp only [hkeys, List.mem_cons, List.not_mem_nil, or_false] at hk
    rcases hk with rfl | rfl | rfl | rfl | rfl | rfl | rfl | rfl | rfl <;> simp at hne ⊢
  · simp [rb]
theorem w_fl (x y : Int) :
    hset (Ob hgL s h) 4913 0 { z := 2, els := (s.fl.map cycV).set j [.int .i64 x, .int .i64 y], ty := 83, fz := false, cl := true } = Ob hgL { s with fl := s.fl.set j (x, y) } h := by
  refine ob_write hgL_keys (by simp) (fun k hk hne => ?_) ?_
  · simp only [hkeys, List.mem_cons, List.not_mem_nil, or_false] at hk
    rcases hk with rfl | rfl | rfl | rfl | rfl | rfl | rfl | rfl | rfl <;> simp at hne ⊢
  · simp [cycV]
theorem w_wk (x : Int) :
    hset (Ob hgL s h) 4919 0 { z := 9, els := [[.sl 3 (s.r.kinds.map Kd.row), .sl 4 (s.r.parts.map Pt.row), .int .i64 s.r.machines, .sl 2 (s.r.orders.map Od.row), ptsV s.ps.length, .bsl 4910 0 s.iss.length, .bsl 4913 0 s.fl.length, .int .i64 x, .bsl 4917 0 s.hi.length]], ty := 74, fz := false, cl := false } = Ob hgL { s with wk := x } h := by
  refine ob_write hgL_keys (by simp) (fun k hk hne => ?_) ?_
  · simp only [hkeys, List.mem_cons, List.not_mem_nil, or_false] at hk
    rcases hk with rfl | rfl | rfl | rfl | rfl | rfl | rfl | rfl | rfl <;> simp at hne ⊢
  · simp
theorem w_hi (x : Nat × Nat) :
    hset (Ob hgL s h) 4917 0 { z := 1, els := (s.hi.map fun o => [hiV o]).set j [.bsl 8915 x.1 x.2], ty := 47, fz := false, cl := false } = Ob hgL { s with hi := s.hi.set j (some x), hcl := false } h := by
  refine ob_write hgL_keys (by simp) (fun k hk hne => ?_) ?_
  · simp only [hkeys, List.mem_cons, List.not_mem_nil, or_false] at hk
    rcases hk with rfl | rfl | rfl | rfl | rfl | rfl | rfl | rfl | rfl <;> simp at hne ⊢
  · simp [List.map_set, hiV]
theorem w_hb (l : List Stt) :
    hset (Ob hgL s h) 8915 i (hbB l) = Ob hgL { s with hb := s.hb.set i l } h := by
  refine ob_write hgL_keys (by simp) (fun k hk hne => ?_) ?_
  · simp only [hkeys, List.mem_cons, List.not_mem_nil, or_false] at hk
    rcases hk with rfl | rfl | rfl | rfl | rfl | rfl | rfl | rfl | rfl <;> simp at hne ⊢
  · simp [List.map_set]
theorem p_hb (l : List Stt) :
    hpush (Ob hgL s h) 8915 (hbB l) = Ob hgL { s with hb := s.hb ++ [l] } h := by
  funext k
  by_cases hk : k = 8915
  · subst hk; simp [hpush]
  · simp only [hpush, hk, if_false]
    by_cases hkk : k ∈ hkeys
    · simp only [hkeys, List.mem_cons, List.not_mem_nil, or_false] at hkk
      rcases hkk with rfl | rfl | rfl | rfl | rfl | rfl | rfl | rfl | rfl <;> simp at hk ⊢
    · have : hkeys.contains k = false := by simpa [List.contains_eq_mem] using hkk
      rw [g_ne _ _ this, g_ne _ _ this]
end wr
end Go.Sx
end
section
/- Contracts whose values are read by their encoding. No conditions. -/
namespace Go.Sx
open Classical in
/-- Out of the values what they stand for. -/
noncomputable def decC {D : Type} [Inhabited D] (enc : D → List V) (l : List V) : D := if x : ∃ d, l = enc d then x.choose else default
theorem decC_eq {D : Type} [Inhabited D] {enc : D → List V} (inj : ∀ a b, enc a = enc b → a = b) (d : D) : decC enc (enc d) = d := by
  have x : ∃ d', enc d = enc d' := ⟨d, rfl⟩
  simp only [decC, dif_pos x]
  exact (inj _ _ x.choose_spec).symm
theorem decC_of {D : Type} [Inhabited D] {enc : D → List V} (inj : ∀ a b, enc a = enc b → a = b) (d : D) {l : List V} (h : l = enc d) : decC enc l = d := by rw [h, decC_eq inj]
noncomputable abbrev mkP {D : Type} [Inhabited D] (enc : D → List V) (pre : D → Prop) (res : D → V) : PSpec := { dom := D, enc := enc, dec := decC enc, pre := pre, res := res }
noncomputable def mkH {D : Type} (enc : D → List V) (HP : D → Hp → Prop) (pre : D → Prop) (res : D → V) (post : D → Hp → Hp) : HSpec :=
  { go := fun args h => open Classical in if hx : ∃ d, args = enc d ∧ HP d h then ⟨pre hx.choose, res hx.choose, post hx.choose h⟩ else bad h }
theorem mkH_at {D : Type} {enc : D → List V} {HP : D → Hp → Prop} {pre : D → Prop} {res : D → V} {post : D → Hp → Hp} (inj : ∀ d d' h, enc d = enc d' → HP d h → HP d' h → d = d') {d : D} {h : Hp} (hd : HP d h) :
    (mkH enc HP pre res post).go (enc d) h = ⟨pre d, res d, post d h⟩ := by
  have hx : ∃ d', enc d = enc d' ∧ HP d' h := ⟨d, rfl, hd⟩
  have e : hx.choose = d := (inj _ _ _ hx.choose_spec.1 hd hx.choose_spec.2).symm
  simp only [mkH]
  rw [dif_pos hx, e]
theorem mkH_inv {D : Type} {enc : D → List V} {HP : D → Hp → Prop} {pre : D → Prop} {res : D → V} {post : D → Hp → Hp} {args : List V} {h : Hp} (hc : ((mkH enc HP pre res post).go args h).c) :
    ∃ d, args = enc d ∧ HP d h ∧ pre d ∧ (mkH enc HP pre res post).go args h = ⟨pre d, res d, post d h⟩ := by
  simp only [mkH] at hc ⊢
  by_cases hx : ∃ d, args = enc d ∧ HP d h
  · rw [dif_pos hx] at hc
    exact ⟨hx.choose, hx.choose_spec.1, hx.choose_spec.2, hc, by rw [dif_pos hx]⟩
  · rw [dif_neg hx] at hc; exact hc.elim
end Go.Sx
end
section
/- Parts: the hangar as an immutable value, for functions that only read it. No conditions. -/
set_option linter.unusedSimpArgs false
set_option linter.unusedSectionVars false
namespace Go.Sx

/-- What a function that only reads sees of a hangar. -/
structure HI where
  r : Reg
  ps : List PS
  iss : List Bool
  v1 : V
  v2 : V
  v3 : V
  deriving Inhabited
def PS.irow (p : PS) : List V := [.int .i64 p.kind, .int .i64 p.hours, .int .i64 p.cycles, .bool p.known, .int .i64 p.a, .int .i64 p.b, .sl 1 (p.since.map ri), .sl 1 (p.chk.map rb)]
def ptI (p : PS) : V := .ip 8 [p.irow] 0 0
def ptsI (ps : List PS) : V := if ps = [] then .nil else .sl 1 (ps.map fun p => [ptI p])
def HI.v (x : HI) : V := .ip 9 [[.sl 3 (x.r.kinds.map Kd.row), .sl 4 (x.r.parts.map Pt.row), .int .i64 x.r.machines, .sl 2 (x.r.orders.map Od.row), ptsI x.ps, .sl 1 (x.iss.map rb), x.v1, x.v2, x.v3]] 0 0
@[simp high] theorem len_ptsI (ps : List PS) : (ptsI ps).len = some ps.length := by
  unfold ptsI; split
  · rename_i e; subst e; rfl
  · simp [V.len]
theorem ptsI_ne {ps : List PS} (h : 0 < ps.length) : ptsI ps = .sl 1 (ps.map fun p => [ptI p]) := by
  unfold ptsI; rw [if_neg]; rintro rfl; simp at h
theorem PS.irow_inj (a b : PS) (h : a.irow = b.irow) : a = b := by
  cases a; cases b
  simp only [PS.irow, List.cons.injEq, V.int.injEq, V.bool.injEq, V.sl.injEq, true_and, and_true] at h
  simp only [PS.mk.injEq]
  exact ⟨h.1, h.2.1, h.2.2.1, h.2.2.2.1, h.2.2.2.2.1, h.2.2.2.2.2.1, map_ri_inj h.2.2.2.2.2.2.1, map_inj rb_inj h.2.2.2.2.2.2.2⟩
theorem ptI_inj (a b : PS) (h : ptI a = ptI b) : a = b := PS.irow_inj _ _ (by simpa [ptI] using h)
theorem ptsI_inj (a b : List PS) (h : ptsI a = ptsI b) : a = b := by
  unfold ptsI at h
  split at h <;> split at h
  · rename_i h1 h2; rw [h1, h2]
  · cases h
  · cases h
  · simp only [V.sl.injEq, true_and] at h
    exact map_inj (f := fun p => [ptI p]) (fun a b h => ptI_inj _ _ (by simpa using h)) h
theorem HI.v_inj (a b : HI) (h : a.v = b.v) : a = b := by
  obtain ⟨⟨k, p, m, o⟩, ps, iss, v1, v2, v3⟩ := a
  obtain ⟨⟨k', p', m', o'⟩, ps', iss', v1', v2', v3'⟩ := b
  simp only [HI.v, V.ip.injEq, List.cons.injEq, V.sl.injEq, V.int.injEq, true_and, and_true] at h
  obtain ⟨h1, h2, h3, h4, h5, h6, h7, h8, h9⟩ := h
  simp only [HI.mk.injEq, Reg.mk.injEq]
  exact ⟨⟨map_inj Kd.row_inj h1, map_inj Pt.row_inj h2, h3, map_inj Od.row_inj h4⟩, ptsI_inj _ _ h5, map_inj rb_inj h6, h7, h8, h9⟩

section lend
theorem lendRs_map {α : Type} {g : V → Prop × V} {f f' : α → List V} : ∀ {l : List α}, (∀ x ∈ l, lendCs g (f x) = (True, f' x)) → lendRs g (l.map f) = (True, l.map f')
  | [], _ => rfl
  | x :: l, h => by
    simp only [List.map_cons, lendRs]
    rw [h x (by simp), lendRs_map fun y hy => h y (by simp [hy])]
    simp
/-- Each history that a part has is there. -/
structure HG.Hok (s : HG) : Prop where
  hi : ∀ o ∈ s.hi, ∀ i n, o = some (i, n) → ∃ l, s.hb[i]? = some l ∧ l.length = n
  cl : s.hcl = true → ∀ o ∈ s.hi, o = none
def hisI (hb : List (List Stt)) : Option (Nat × Nat) → V
  | none => .nil
  | some (i, _) => .sl 6 ((hb.getD i []).map Stt.row)
def HG.i (s : HG) : HI := { r := s.r, ps := s.ps, iss := s.iss, v1 := .sl 2 (s.fl.map cycV), v2 := .int .i64 s.wk, v3 := .sl 1 (s.hi.map fun o => [hisI s.hb o]) }
theorem range_getD {α : Type} {β : Type} (l : List α) (d : α) (g : α → β) : (List.range l.length).map (fun k => g (l.getD k d)) = l.map g := by
  refine List.ext_getElem (by simp) fun i h1 h2 => ?_
  simp at h1 h2 ⊢
  simp [h2]
theorem lend_part (s : HG) (h : Hp) (f : Nat) {k : Nat} {p : PS} (hp : s.ps[k]? = some p) : lendN (f + 1) (Ob hgL s h) (.bptr 4943 k 1 0 0) = (True, ptI p) := by
  have e3 := mapIdx_get hp
  have e1 : (s.ps.map sinB)[k]? = some { z := 1, els := p.since.map ri, ty := 3 } := by rw [List.getElem?_map, hp]; rfl
  have e2 : (s.ps.map chkB)[k]? = some { z := 1, els := p.chk.map rb, ty := 4 } := by rw [List.getElem?_map, hp]; rfl
  have x1 : lendN f (Ob hgL s h) (.bsl 4937 k p.since.length) = (True, .sl 1 (p.since.map ri)) := by
    cases f <;> simp [lendN, e1, lendB]
  have x2 : lendN f (Ob hgL s h) (.bsl 4941 k p.chk.length) = (True, .sl 1 (p.chk.map rb)) := by
    cases f <;> simp [lendN, e2, lendB]
  have y1 : ∀ n, lendN f (Ob hgL s h) (.int .i64 n) = (True, .int .i64 n) := fun n => by cases f <;> rfl
  have y2 : ∀ n, lendN f (Ob hgL s h) (.bool n) = (True, .bool n) := fun n => by cases f <;> rfl
  rw [lendN]
  simp only [g_hget, g4943, Nat.not_lt_zero, if_false, Nat.sub_zero, e3]
  simp [lendB, lendRs, lendCs, x1, x2, y1, y2, V.leaf, ptI, PS.irow]
theorem lend_pts (s : HG) (h : Hp) : lendN 2 (Ob hgL s h) (ptsV s.ps.length) = (True, ptsI s.ps) := by
  by_cases hn : s.ps.length = 0
  · have : s.ps = [] := List.length_eq_zero_iff.1 hn
    rw [hn]; simp [ptsV, ptsI, this, lendN]
  · rw [ptsV_ne (by omega), ptsI_ne (by omega)]
    have : lendRs (lendN 1 (Ob hgL s h)) ((List.range s.ps.length).map fun k => [.bptr 4943 k 1 0 0]) = (True, (List.range s.ps.length).map fun k => [ptI (s.ps.getD k default)]) := by
      refine lendRs_map fun k hk => ?_
      have hk' : k < s.ps.length := by simpa using hk
      have hp : s.ps[k]? = some s.ps[k] := List.getElem?_eq_getElem hk'
      simp only [lendCs]
      rw [lend_part s h 0 hp]
      simp [V.leaf, List.getD, hp]
    rw [lendN]
    simp only [g_hget, g4945, Nat.not_lt_zero, if_false, Nat.sub_zero]
    rw [ptsB_ne (by omega)]
    simp only [List.getElem?_cons_zero, lendB, this]
    rw [range_getD s.ps default fun p => [ptI p]]
    simp
theorem lend_hg {s : HG} (hs : s.Hok) (h : Hp) : lend1 (Ob hgL s h) (.bptr 4919 0 1 0 0) = (True, s.i.v) := by
  have z1 : lendN 2 (Ob hgL s h) (.bsl 4910 0 s.iss.length) = (True, .sl 1 (s.iss.map rb)) := by simp [lendN, lendB]
  have z2 : lendN 2 (Ob hgL s h) (.bsl 4913 0 s.fl.length) = (True, .sl 2 (s.fl.map cycV)) := by simp [lendN, lendB]
  have z3 : lendN 2 (Ob hgL s h) (.bsl 4917 0 s.hi.length) = (True, .sl 1 (s.hi.map fun o => [hisI s.hb o])) := by
    cases hc : s.hcl with
    | true =>
      have : (s.hi.map fun o => [hiV o]) = s.hi.map fun o => [hisI s.hb o] := List.map_congr_left fun o ho => by rw [hs.cl hc o ho]; rfl
      simp [lendN, lendB, hc, this]
    | false =>
      have : lendRs (lendN 1 (Ob hgL s h)) (s.hi.map fun o => [hiV o]) = (True, s.hi.map fun o => [hisI s.hb o]) := by
        refine lendRs_map fun o ho => ?_
        cases o with
        | none => simp [lendCs, hiV, hisI, lendN, V.leaf]
        | some x =>
          obtain ⟨i, n⟩ := x
          obtain ⟨l, hl, hn⟩ := hs.hi _ ho i n rfl
          have e : (s.hb.map hbB)[i]? = some (hbB l) := by rw [List.getElem?_map, hl]; rfl
          simp [lendCs, hiV, hisI, lendN, V.leaf, e, hl, hbB, lendB, hn, List.getD]
      simp [lendN, lendB, hc, this]
  have hl := lend_pts s h
  have lp : (ptsV s.ps.length).leaf = true := by unfold ptsV; split <;> rfl
  unfold lend1
  rw [lendN]
  simp only [g_hget, g4919, Nat.not_lt_zero, if_false, Nat.sub_zero, List.getElem?_cons_zero]
  have y1 : ∀ n, lendN 2 (Ob hgL s h) (.int .i64 n) = (True, .int .i64 n) := fun n => rfl
  have y2 : ∀ z e, lendN 2 (Ob hgL s h) (.sl z e) = (True, .sl z e) := fun z e => rfl
  simp only [lendB, lendRs, lendCs, hl, z1, z2, z3, y1, y2, lp, HI.v, HG.i]
  simp [V.leaf]
@[simp] theorem lend1_int (h : Hp) (k : Go.IntKind) (n : Int) : lend1 h (.int k n) = (True, .int k n) := rfl
@[simp] theorem lend1_bool (h : Hp) (b : Bool) : lend1 h (.bool b) = (True, .bool b) := rfl
@[simp] theorem lend1_sl (h : Hp) (z : Nat) (els : List (List V)) : lend1 h (.sl z els) = (True, .sl z els) := rfl
@[simp] theorem lend1_ip (h : Hp) (z : Nat) (els : List (List V)) (e j : Nat) : lend1 h (.ip z els e j) = (True, .ip z els e j) := rfl
@[simp] theorem lend1_nil (h : Hp) : lend1 h .nil = (True, .nil) := rfl
@[simp] theorem lend_hg' {s : HG} (hs : s.Hok) (h : Hp) : lend1 (Ob hgL s h) (.bptr 4919 0 1 0 0) = (True, s.i.v) := lend_hg hs h
end lend
end Go.Sx
end
section
/- Parts: what only reads a hangar. No conditions. -/
set_option linter.unusedSimpArgs false
set_option linter.unusedSectionVars false
set_option maxRecDepth 100000
set_option maxHeartbeats 1000000
namespace Go.Sx
open Go.Proofs

def wsub (a b : Int) : Int := IntKind.wrap .i64 (a - b)
def wadd (a b : Int) : Int := IntKind.wrap .i64 (a + b)
@[simp] def hiE (d : HI × Int) : List V := [d.1.v, .int .i64 d.2]
theorem hiE_inj (a b : HI × Int) (h : hiE a = hiE b) : a = b := by
  simp only [hiE, List.cons.injEq, V.int.injEq, true_and, and_true] at h
  exact Prod.ext (HI.v_inj _ _ h.1) h.2
theorem hiE_dec (x : HI) (n : Int) : decC hiE [x.v, .int .i64 n] = (x, n) := decC_eq hiE_inj (x, n)
def HI.machine (x : HI) (n : Int) : Bool := withinB n 0 (wsub x.r.machines 1)
def HI.part (x : HI) (n : Int) : Bool := withinB n 0 (wsub x.ps.length 1)
def HI.order (x : HI) (n : Int) : Bool := withinB n 0 (wsub x.r.orders.length 1)
noncomputable abbrev machineS : PSpec := mkP hiE (fun _ => True) fun d => .bool (d.1.machine d.2)
noncomputable abbrev partS : PSpec := mkP hiE (fun _ => True) fun d => .bool (d.1.part d.2)
noncomputable abbrev orderS : PSpec := mkP hiE (fun _ => True) fun d => .bool (d.1.order d.2)
noncomputable abbrev E21 : Env := { P := Tryz.prog, fn := tbl [(20, .pure withinS)], own := [], key := 2100, nt := 13 }
theorem b21 : PureBody E21 [] Tryz.f21 machineS := by
  refine pb ?_
  rintro ⟨x, n⟩ _
  simp -dsimp [Tryz.f21, E21, hiE, HI.v, HI.machine, wsub]
  repeat' (first | omega | (simp -dsimp [E21, ri, cellp, ints, wsub]) | (refine Also.intro ?_ fun _ => ?_) | (refine Hold.intro fun _ => ?_) | (refine And.intro ?_ ?_))
theorem ok21 : FnOK Tryz.prog 21 (.pure machineS) := pure_fn (E := E21) rfl (.cons ok20 .nil) (ok := []) (fn := Tryz.f21) (by kernel_rfl) (by kernel_rfl) (by kernel_rfl) (by kernel_rfl) rfl (fun _ _ => by simp) b21
noncomputable abbrev E30 : Env := { P := Tryz.prog, fn := tbl [(20, .pure withinS)], own := [], key := 3000, nt := 13 }
theorem b30 : PureBody E30 [] Tryz.f30 partS := by
  refine pb ?_
  rintro ⟨x, n⟩ _
  simp -dsimp [Tryz.f30, E30, hiE, HI.v, HI.part, wsub]
  repeat' (first | omega | (simp -dsimp [E30, ri, cellp, ints, wsub]) | (refine Also.intro ?_ fun _ => ?_) | (refine Hold.intro fun _ => ?_) | (refine And.intro ?_ ?_))
theorem ok30 : FnOK Tryz.prog 30 (.pure partS) := pure_fn (E := E30) rfl (.cons ok20 .nil) (ok := []) (fn := Tryz.f30) (by kernel_rfl) (by kernel_rfl) (by kernel_rfl) (by kernel_rfl) rfl (fun _ _ => by simp) b30
noncomputable abbrev E90 : Env := { P := Tryz.prog, fn := tbl [(20, .pure withinS)], own := [], key := 9000, nt := 14 }
theorem b90 : PureBody E90 [] Tryz.f90 orderS := by
  refine pb ?_
  rintro ⟨x, n⟩ _
  simp -dsimp [Tryz.f90, E90, hiE, HI.v, HI.order, wsub]
  repeat' (first | omega | (simp -dsimp [E90, ri, cellp, ints, wsub]) | (refine Also.intro ?_ fun _ => ?_) | (refine Hold.intro fun _ => ?_) | (refine And.intro ?_ ?_))
theorem ok90 : FnOK Tryz.prog 90 (.pure orderS) := pure_fn (E := E90) rfl (.cons ok20 .nil) (ok := []) (fn := Tryz.f90) (by kernel_rfl) (by kernel_rfl) (by kernel_rfl) (by kernel_rfl) rfl (fun _ _ => by simp) b90
/-! at: the part of a kind at a spot -/
structure AtD where
  p : PS
  k : Int
  a : Int
  b : Int
  deriving Inhabited
def atIs (k a b : Int) (p : PS) : Bool := p.kind == k && (p.a == a && p.b == b)
def boxI (k : Int) : V := .ip 1 [[.int .i64 k]] 0 0
def boxS (a b : Int) : V := .ip 2 [[.int .i64 a, .int .i64 b]] 0 0
@[simp] def atE (d : AtD) : List V := [ptI d.p, boxI d.k, boxS d.a d.b]
theorem atE_inj (x y : AtD) (h : atE x = atE y) : x = y := by
  obtain ⟨p, k, a, b⟩ := x
  obtain ⟨p', k', a', b'⟩ := y
  simp only [atE, List.cons.injEq, boxI, boxS, V.ip.injEq, V.int.injEq, true_and, and_true] at h
  rw [ptI_inj _ _ h.1, h.2.1, h.2.2.1, h.2.2.2]
theorem atE_dec (p : PS) (k a b : Int) : decC atE [ptI p, boxI k, boxS a b] = ⟨p, k, a, b⟩ := decC_eq atE_inj ⟨p, k, a, b⟩
noncomputable abbrev atS1 : PSpec := mkP atE (fun _ => True) fun d => .bool (atIs d.k d.a d.b d.p)
noncomputable abbrev E59 : Env := { P := Tryz.prog, fn := tbl [], own := [], key := 5900, nt := 20 }
theorem b59 : PureBody E59 [] Tryz.f59 atS1 := by
  refine pb ?_
  rintro ⟨p, k, a, b⟩ _
  simp -dsimp [Tryz.f59, E59, atE, ptI, boxI, boxS, PS.irow]
  by_cases h : p.kind = k
  · repeat' (first | omega | (simp -dsimp [E59, ri, cellp, ints, h, atIs]) | (refine Also.intro ?_ fun _ => ?_) | (refine Hold.intro fun _ => ?_) | (refine And.intro ?_ ?_))
  · repeat' (first | omega | (simp -dsimp [E59, ri, cellp, ints, h, atIs]) | (refine Also.intro ?_ fun _ => ?_) | (refine Hold.intro fun _ => ?_) | (refine And.intro ?_ ?_))
theorem ok59 : FnOK Tryz.prog 59 (.pure atS1) := pure_fn (E := E59) rfl LOK.nil (ok := []) (fn := Tryz.f59) (by kernel_rfl) (by kernel_rfl) (by kernel_rfl) (by kernel_rfl) rfl (fun _ _ => by simp) b59
end Go.Sx
end
