/- A part of a proof; no conditions. -/
import Derived.Test.YtcbcajnkdknkdaaDoorP11
import Derived.Test.YtcbcajnkdknkdaaDoorP09
set_option linter.unusedSimpArgs false
set_option linter.unusedVariables false
set_option linter.unusedSectionVars false
section
/- Parts: count, Cycles. No conditions. -/
set_option linter.unusedSimpArgs false
set_option maxRecDepth 100000
set_option maxHeartbeats 1000000
namespace Go.Sx
open Go.Proofs
attribute [local irreducible] awp

def countS : HSpec where
  go args h := match args with
    | [.sl z els] => ⟨True, .fn 81 [.bptr 4901 (hnext h 4901) 1 0 0], hpush h 4901 { z := 1, els := [[.sl z els]], ty := 22 }⟩
    | _ => ⟨False, .top, h⟩
noncomputable abbrev E49 : Env := { P := Tryd.prog, fn := tbl [], own := [], key := 4900, nt := 4 }
theorem b49 : HeapBody E49 [] Tryd.f49 countS := by
  intro args h hc
  match args, hc with
  | [.sl z els], hc =>
    have hn := hget_push_new h 4901 { z := 1, els := [[.sl z els]], ty := 22 }
    simp -dsimp [Tryd.f49, E49, countS]
    repeat' (first | omega | (simp -dsimp [E49, ri, cellp, ints, hn]) | (refine Also.intro ?_ fun _ => ?_) | (refine Hold.intro fun _ => ?_) | (refine And.intro ?_ ?_))
theorem ok49 : FnOK Tryd.prog 49 (.heap countS) := heap_fn (E := E49) rfl LOK.nil (ok := []) (fn := Tryd.f49) (by kernel_rfl) (by kernel_rfl) (by kernel_rfl) (by kernel_rfl) rfl (fun args h hc => by match args, hc with | [.sl z els], hc => simp) b49

/-- What Cycles has so far. -/
def outV (s : List (Int × Int)) : V := match s with | [] => .nil | _ => .bsl 1621 0 s.length
def outC (s : List (Int × Int)) : List (Nat × Site) := match s with
  | [] => [(1602, { base := 0, blks := [{ z := 1, els := [[.nil]], ty := 26 }] }), (1621, { base := 0, blks := [] })]
  | s => [(1602, { base := 0, blks := [{ z := 1, els := [[.bsl 1621 0 s.length]], ty := 26, cl := false }] }), (1621, { base := 0, blks := [{ z := 2, els := s.map cycV, ty := 30 }] })]
theorem outC_keys (s : List (Int × Int)) : (outC s).map (·.1) = [1602, 1621] := by cases s <;> rfl
theorem cycV_inj {a b : List (Int × Int)} (h : a.map cycV = b.map cycV) : a = b := by
  induction a generalizing b with
  | nil => cases b with
    | nil => rfl
    | cons => simp at h
  | cons x a ih =>
    cases b with
    | nil => simp at h
    | cons y b =>
      simp only [List.map_cons, List.cons.injEq, cycV, V.int.injEq, true_and, and_true] at h
      rw [ih h.2, Prod.ext h.1.1 h.1.2]
theorem outC_inj (s s' : List (Int × Int)) (h : ∀ k ∈ [1602, 1621], hps (outC s) noH k = hps (outC s') noH k) : s = s' := by
  have h2 := h 1621 (by simp)
  cases s with
  | nil =>
    cases s' with
    | nil => rfl
    | cons y s' => simp [outC, hps] at h2
  | cons x s =>
    cases s' with
    | nil => simp [outC, hps] at h2
    | cons y s' =>
      simp only [outC, hps] at h2
      simp at h2
      have : (x :: s).map cycV = (y :: s').map cycV := by simp [h2]
      exact cycV_inj this
def cycOf (x : List V) : Int × Int := ((x.getD 0 .top).toInt, (x.getD 1 .top).toInt)
theorem cycOf_V (p : Int × Int) : cycOf (cycV p) = p := rfl
abbrev cycPre (s : List (Int × Int)) (x : List V) : Prop := (∃ p, x = cycV p) ∧ s.length ≤ 1000000
theorem cyc_run : ∀ (c s : List (Int × Int)), s.length + c.length ≤ 1000000 → (runS cycPre (fun _ _ => true) (fun s x => s ++ [cycOf x]) s (c.map cycV)).1 ∧ (runS cycPre (fun _ _ => true) (fun s x => s ++ [cycOf x]) s (c.map cycV)).2 = (true, s ++ c)
  | [], s, _ => ⟨trivial, by simp [runS]⟩
  | p :: c, s, h => by
    simp only [List.length_cons] at h
    obtain ⟨h1, h2⟩ := cyc_run c (s ++ [p]) (by simp; omega)
    simp only [List.map_cons, runS, cycOf_V]
    exact ⟨⟨⟨⟨p, rfl⟩, by omega⟩, h1⟩, by rw [h2]; simp⟩
abbrev CyclesS : PSpec := { dom := List Int, enc := fun d => [ints d], dec := fun l => (l.getD 0 .top).toInts, pre := fun d => d.length ≤ 9223372036854775807, res := fun d => .tup [.sl 2 ((if serE d = 0 then cycles d else []).map cycV), .int .i64 (serE d)] }
noncomputable abbrev E16 : Env := { P := Tryd.prog, fn := tbl [(48, .pure serS), (49, .heap countS), (81, .iter cntS)], own := [], key := 1600, nt := 23 }
theorem b16 : PureBody E16 [] Tryd.f16 CyclesS := by
  refine pb ?_
  rintro L hL
  by_cases h0 : serE L = 0
  case neg =>
    simp -dsimp [Tryd.f16, E16, h0]
    repeat' (first | omega | (simp -dsimp [E16, ri, cellp, ints, hL, h0]) | (refine Also.intro ?_ fun _ => ?_) | (refine Hold.intro fun _ => ?_) | (refine And.intro ?_ ?_))
  have hcnt : ∀ H, countS.go [.sl 1 (L.map ri)] H = ⟨True, .fn 81 [.bptr 4901 (hnext H 4901) 1 0 0], hpush H 4901 { z := 1, els := [[.sl 1 (L.map ri)]], ty := 22 }⟩ := fun _ => rfl
  simp -dsimp [Tryd.f16, E16, h0]
  repeat' (first | omega | (simp -dsimp [E16, ri, cellp, ints, hL, h0, hcnt]) | (refine Also.intro ?_ fun _ => ?_) | (refine Hold.intro fun _ => ?_) | (refine And.intro ?_ ?_))
  have hser : L.length ≤ 300 ∧ allB L (-1000000) 1000000 = true := by
    unfold serE at h0
    split at h0
    · cases h0
    · split at h0
      · exact ⟨by omega, by assumption⟩
      · cases h0
  have hbd : Bd L := by
    intro x hx
    have := List.all_eq_true.1 hser.2 x hx
    simp [withinB] at this; omega
  have hcl := cycles_len L
  obtain ⟨hr1, hr2⟩ := cyc_run (cycles L) [] (by simp; omega)
  refine awp_range (LC := outC) (keys := [1602, 1621]) (pre := cycPre) (go := fun _ _ => true) (nxt := fun s x => s ++ [cycOf x]) outC_inj outC_keys [] .normal ((cycles L).map cycV) (own := [8120, 8159, 8432]) (ro := [4901]) (dec := cntDec) rfl (by simp; rfl) rfl (by decide) (by decide) (by decide) ⟨rfl, rfl⟩ ?_ ?_ ?_ hr1 ?_ ?_ ?_
  · intro k hk
    simp at hk
    rcases hk with rfl | rfl <;> rfl
  · intro k hk
    simp at hk
    rcases hk with rfl | rfl | rfl <;> rfl
  · refine ⟨⟨⟨rfl, rfl, rfl, rfl⟩, rfl, L, rfl, by omega, hbd⟩, ?_⟩
    simp [cntDec]
  · rintro s x hb ⟨⟨p, rfl⟩, hs⟩ hy1 hy2
    refine ⟨rfl, ?_⟩
    rw [cycOf_V]
    obtain ⟨p1, p2⟩ := p
    cases s with
    | nil =>
      have hle : HLe (hps [(1602, { base := 0, blks := [{ z := 1, els := [[V.bsl 1621 0 1]], ty := 26, cl := false }] }), (1621, { base := 0, blks := [{ z := 2, els := [[V.int IntKind.i64 p1, V.int IntKind.i64 p2]], ty := 30 }] }), (1602, { base := 0, blks := [{ z := 1, els := [[.nil]], ty := 26 }] }), (1621, { base := 0, blks := [] })] hb) (hps [(1602, { base := 0, blks := [{ z := 1, els := [[V.bsl 1621 0 1]], ty := 26, cl := false }] }), (1621, { base := 0, blks := [{ z := 2, els := [[V.int IntKind.i64 p1, V.int IntKind.i64 p2]], ty := 30 }] })] hb) := (by (try simp -dsimp only [hpush_noH, hpush_hps, hps_over]); refine hle_hpsb ?_; simp -dsimp [allK, ]; repeat' (first | (refine And.intro ?_ ?_) | (refine sLe.same ?_ ?_ <;> (simp; done)) | (refine sLe.clear ?_ ?_ <;> (first | (simp; done) | (simp; omega))) | (refine sLe.drop 1 ?_ ?_ ?_ <;> (simp; done))))
      simp -dsimp [E16, setT, cycV, outC]
      repeat' (first | omega | (simp -dsimp [E16, ri, cellp, ints, cycV, hle]) | (refine Also.intro ?_ fun _ => ?_) | (refine Hold.intro fun _ => ?_) | (refine And.intro ?_ ?_))
    | cons y s =>
      have hb16 : (s.length + 1 + 1) * 16 ≤ 140737488355328 := by simp at hs; omega
      have hle : HLe (hps [(1602, { base := 0, blks := [{ z := 1, els := [[V.bsl 1621 0 (s.length + 1 + 1)]], ty := 26, cl := false }] }), (1621, { base := 0, blks := [{ z := 2, els := [V.int IntKind.i64 y.1, V.int IntKind.i64 y.2] :: (s.map cycV ++ [[V.int IntKind.i64 p1, V.int IntKind.i64 p2]]), ty := 30 }] }), (1602, { base := 0, blks := [{ z := 1, els := [[V.bsl 1621 0 (s.length + 1)]], ty := 26, cl := false }] }), (1621, { base := 0, blks := [{ z := 2, els := [V.int IntKind.i64 y.1, V.int IntKind.i64 y.2] :: s.map cycV, ty := 30 }] })] hb) (hps [(1602, { base := 0, blks := [{ z := 1, els := [[V.bsl 1621 0 (s.length + 1 + 1)]], ty := 26, cl := false }] }), (1621, { base := 0, blks := [{ z := 2, els := [V.int IntKind.i64 y.1, V.int IntKind.i64 y.2] :: (s.map cycV ++ [[V.int IntKind.i64 p1, V.int IntKind.i64 p2]]), ty := 30 }] })] hb) := (by (try simp -dsimp only [hpush_noH, hpush_hps, hps_over]); refine hle_hpsb ?_; simp -dsimp [allK, ]; repeat' (first | (refine And.intro ?_ ?_) | (refine sLe.same ?_ ?_ <;> (simp; done)) | (refine sLe.clear ?_ ?_ <;> (first | (simp; done) | (simp; omega))) | (refine sLe.drop 1 ?_ ?_ ?_ <;> (simp; done))))
      simp -dsimp [E16, setT, cycV, outC]
      repeat' (first | omega | (simp -dsimp [E16, ri, cellp, ints, cycV, hb16, hle]) | (refine Also.intro ?_ fun _ => ?_) | (refine Hold.intro fun _ => ?_) | (refine And.intro ?_ ?_))
  · intro _
    rw [hr2]
    simp only [List.nil_append]
    cases hC : cycles L with
    | nil =>
      simp -dsimp [outC, hps_app]
      repeat' (first | omega | (simp -dsimp [E16, ri, cellp, ints, outC, hC]) | (refine Also.intro ?_ fun _ => ?_) | (refine Hold.intro fun _ => ?_) | (refine And.intro ?_ ?_))
    | cons y s =>
      simp -dsimp [outC, hps_app]
      repeat' (first | omega | (simp -dsimp [E16, ri, cellp, ints, outC, hC]) | (refine Also.intro ?_ fun _ => ?_) | (refine Hold.intro fun _ => ?_) | (refine And.intro ?_ ?_))
  · intro h
    rw [hr2] at h; cases h
theorem ok16 : FnOK Tryd.prog 16 (.pure CyclesS) := pure_fn (E := E16) rfl (.cons ok48 (.cons ok49 (.cons ok81 .nil))) (ok := []) (fn := Tryd.f16) (by kernel_rfl) (by kernel_rfl) (by kernel_rfl) (by kernel_rfl) rfl (fun _ _ => by simp) b16
end Go.Sx
end
section
/- Parts: turning points as the reference finds them, in plain Lean. No conditions. -/
set_option linter.unusedSimpArgs false
namespace Go.Sx

/-- Without loads that are equal to the one before. -/
def dd (l : List Int) : Nat → List Int
  | 0 => []
  | k + 1 => if k = 0 ∨ l.getD k 0 ≠ l.getD (k - 1) 0 then dd l k ++ [l.getD k 0] else dd l k
def tt (p : List Int) : Nat → List Int
  | 0 => []
  | k + 1 => if k = 0 ∨ k + 1 = p.length ∨ decide (p.getD (k - 1) 0 < p.getD k 0) ≠ decide (p.getD k 0 < p.getD (k + 1) 0) then tt p k ++ [p.getD k 0] else tt p k
theorem dd_len (l : List Int) : ∀ k, (dd l k).length ≤ k
  | 0 => by simp [dd]
  | k + 1 => by
    have := dd_len l k
    rw [dd]
    split
    · simp; omega
    · omega
theorem tt_len (l : List Int) : ∀ k, (tt l k).length ≤ k
  | 0 => by simp [tt]
  | k + 1 => by
    have := tt_len l k
    rw [tt]
    split
    · simp; omega
    · omega
theorem getD_snoc {d : List Int} {x : Int} {i : Nat} (h : i < d.length) : (d ++ [x]).getD i 0 = d.getD i 0 := by
  simp only [List.getD, List.getElem?_append_left h]
theorem getD_end {d : List Int} {x : Int} : (d ++ [x]).getD d.length 0 = x := by
  simp [List.getD]
theorem tt_snoc (d : List Int) (x : Int) : ∀ k, k + 1 ≤ d.length → tt (d ++ [x]) k = tt d k
  | 0, _ => rfl
  | k + 1, h => by
    rw [tt, tt, tt_snoc d x k (by omega), getD_snoc (by omega), getD_snoc (by omega), getD_snoc (by omega)]
    have e1 : (k + 1 = (d ++ [x]).length) = False := eq_false (by simp; omega)
    have e2 : (k + 1 = d.length) = False := eq_false (by omega)
    simp only [e1, e2]
theorem tt_last (d : List Int) (h : 0 < d.length) : tt d d.length = tt d (d.length - 1) ++ [d.getD (d.length - 1) 0] := by
  obtain ⟨n, hn⟩ : ∃ n, d.length = n + 1 := ⟨d.length - 1, by omega⟩
  rw [hn, tt, if_pos (.inr (.inl hn.symm))]
  rfl
theorem tpush_snoc (c : List Int) (y x : Int) (h : y ≠ x) : tpush (c ++ [y]) x = if c ≠ [] ∧ decide (c.getD (c.length - 1) 0 < y) = decide (y < x) then c ++ [x] else c ++ [y, x] := by
  unfold tpush
  have hl : (c ++ [y]).length = c.length + 1 := by simp
  rw [hl, Nat.add_sub_cancel, getD_end]
  rw [if_neg (fun hh => h hh.2)]
  by_cases hc : c = []
  · subst hc
    simp
  · have hp := List.length_pos_iff.2 hc
    have e : c.length + 1 - 2 = c.length - 1 := by omega
    rw [e, getD_snoc (by omega)]
    by_cases hd : decide (c.getD (c.length - 1) 0 < y) = decide (y < x)
    · rw [if_pos ⟨by omega, hd⟩, if_pos ⟨hc, hd⟩]
      rw [List.set_append_right _ _ (Nat.le_refl _)]
      simp
    · rw [if_neg (fun hh => hd hh.2), if_neg (fun hh => hd hh.2)]
      simp
theorem turning_at (l : List Int) : ∀ k, k ≤ l.length → (0 < k → 0 < (dd l k).length ∧ (dd l k).getD ((dd l k).length - 1) 0 = l.getD (k - 1) 0) ∧
    turn (l.take k) = tt (dd l k) (dd l k).length ∧
    (2 ≤ (dd l k).length → tt (dd l k) ((dd l k).length - 1) ≠ [] ∧ decide ((tt (dd l k) ((dd l k).length - 1)).getD ((tt (dd l k) ((dd l k).length - 1)).length - 1) 0 < (dd l k).getD ((dd l k).length - 1) 0) = decide ((dd l k).getD ((dd l k).length - 2) 0 < (dd l k).getD ((dd l k).length - 1) 0))
  | 0, _ => by simp [dd, tt, turn]
  | k + 1, h => by
    obtain ⟨h1, h2, h3⟩ := turning_at l k (by omega)
    have hT := turn_take l (k := k) (by omega)
    have hg : l.getD k 0 = l[k] := by simp [List.getD, List.getElem?_eq_getElem (show k < l.length by omega)]
    rw [← hg] at hT
    rw [hT, h2, dd]
    by_cases hk0 : k = 0
    · subst hk0
      simp [dd, tt, tpush]
    obtain ⟨hp, hl⟩ := h1 (by omega)
    rw [Nat.add_sub_cancel]
    generalize hx : l.getD k 0 = x at *
    rw [← hl] 
    generalize hd : dd l k = d at *
    rw [tt_last d hp]
    generalize hy : d.getD (d.length - 1) 0 = y at *
    by_cases hxy : x = y
    · rw [if_neg (fun hh => by rcases hh with hh | hh; exact hk0 hh; exact hh hxy)]
      subst hxy
      refine ⟨fun _ => ⟨hp, hy⟩, ?_, ?_⟩
      · unfold tpush
        rw [List.length_append, List.length_singleton, Nat.add_sub_cancel, getD_end, if_pos ⟨by omega, rfl⟩, tt_last d hp, hy]
      · rw [hy]; exact h3
    rw [if_pos (.inr hxy)]
    have hl1 : (d ++ [x]).length = d.length + 1 := by simp
    have e1 : tt (d ++ [x]) d.length = if d.length = 1 ∨ decide (d.getD (d.length - 2) 0 < y) ≠ decide (y < x) then tt d (d.length - 1) ++ [y] else tt d (d.length - 1) := by
      obtain ⟨n, hn⟩ : ∃ n, d.length = n + 1 := ⟨d.length - 1, by omega⟩
      rw [hn, tt, tt_snoc d x n (by omega), getD_snoc (by omega), getD_snoc (by omega)]
      have e2 : (d ++ [x]).getD (n + 1) 0 = x := by rw [← hn]; exact getD_end
      have e3 : d.getD n 0 = y := by rw [← hy, hn]; rfl
      have e4 : (n + 1 = (d ++ [x]).length) = False := eq_false (by omega)
      rw [e2, e3]
      simp only [e4, false_or, Nat.add_sub_cancel, show n + 1 - 2 = n - 1 by omega, show (n + 1 = 1) = (n = 0) by simp]
    have e0 : tt (d ++ [x]) (d.length + 1) = tt (d ++ [x]) d.length ++ [x] := by
      have := tt_last (d ++ [x]) (by omega)
      rw [hl1, Nat.add_sub_cancel, getD_end] at this
      exact this
    rw [hl1, e0, Nat.add_sub_cancel, getD_end, tpush_snoc _ _ _ (fun hh => hxy hh.symm), e1]
    refine ⟨fun _ => ⟨by omega, rfl⟩, ?_, ?_⟩
    · by_cases hn1 : d.length = 1
      · have ht : tt d (d.length - 1) = [] := by rw [hn1]; rfl
        rw [ht, if_neg (fun hh => hh.1 rfl), if_pos (.inl hn1)]
        rfl
      · obtain ⟨k1, k2⟩ := h3 (by omega)
        by_cases hc : decide (d.getD (d.length - 2) 0 < y) = decide (y < x)
        · rw [if_pos ⟨k1, by rw [k2, hc]⟩, if_neg (fun hh => by rcases hh with hh | hh; exact hn1 hh; exact hh hc)]
        · rw [if_neg (fun hh => hc (by rw [← k2, hh.2])), if_pos (.inr hc)]
          simp
    · intro _
      have e5 : (d ++ [x]).getD (d.length + 1 - 2) 0 = y := by rw [getD_snoc (by omega), ← hy]; rfl
      rw [e5]
      by_cases hn1 : d.length = 1 ∨ decide (d.getD (d.length - 2) 0 < y) ≠ decide (y < x)
      · rw [if_pos hn1]
        refine ⟨by simp, ?_⟩
        rw [List.length_append, List.length_singleton, Nat.add_sub_cancel, getD_end]
      · rw [if_neg hn1]
        simp only [not_or, Classical.not_not, ne_eq] at hn1
        obtain ⟨k1, k2⟩ := h3 (by omega)
        refine ⟨k1, ?_⟩
        rw [hn1.2] at k2
        generalize (tt d (d.length - 1)).getD ((tt d (d.length - 1)).length - 1) 0 = c at *
        have : (c < y) ↔ (y < x) := by simpa using k2
        simp only [decide_eq_decide]
        omega
theorem turn_tt (l : List Int) : turn l = tt (dd l l.length) (dd l l.length).length := by
  have := (turning_at l l.length (Nat.le_refl _)).2.1
  rwa [List.take_length] at this
end Go.Sx
end
section
/- Parts: the reference's turning points; same lists. No conditions. -/
set_option linter.unusedSimpArgs false
set_option maxRecDepth 100000
set_option maxHeartbeats 1000000
namespace Go.Sx
open Go.Proofs
attribute [local irreducible] awp

noncomputable abbrev E71 : Env := { P := Tryd.prog, fn := tbl [(63, .pure withinS)], own := [], key := 7100, nt := 19 }
theorem b71 : PureBody E71 [] Tryd.f71 serS := by
  refine pb ?_
  rintro l hl
  by_cases h1 : 300 < l.length
  · have e1 : (300 : Int) < l.length := by omega
    simp -dsimp [Tryd.f71, E71, serE, h1]
    repeat' (first | omega | (simp -dsimp [E71, ri, cellp, ints, e1, hl, h1]) | (refine Also.intro ?_ fun _ => ?_) | (refine Hold.intro fun _ => ?_) | (refine And.intro ?_ ?_))
  have e1 : ¬ (300 : Int) < l.length := by omega
  simp -dsimp [Tryd.f71, E71, serE, h1, ints]
  repeat' (first | omega | (simp -dsimp [E71, ri, cellp, ints, e1, hl, h1]) | (refine Also.intro ?_ fun _ => ?_) | (refine Hold.intro fun _ => ?_) | (refine And.intro ?_ ?_))
  refine awp_loop [7, 8, 9, 10, 13, 14, 15, 16, 17, 18, 2, 11, 12, 3] (fun k : { k : Nat // k ≤ l.length ∧ ∀ j (h : j < l.length), j < k → withinB l[j] (-1000000) 1000000 = true } => [(3, (true, .int .i64 (k.1 : Nat))), (2, (true, .int .i64 0))]) (fun _ => noH) (fun k => l.length - k.1) ⟨0, by omega, fun _ _ h => by omega⟩ ?_ (HLe.refl _) ?_
  · simp [okAll, okv]
  rintro ⟨k, hk, hall⟩
  simp only
  by_cases hk1 : k < l.length
  · have hki : (k : Int) < l.length := by omega
    have wk : IntKind.wrap .i64 ((k : Int) + 1) = (k + 1 : Nat) := wrap_id (by omega) (by omega)
    cases hw : withinB l[k] (-1000000) 1000000
    · have hA : allB l (-1000000) 1000000 = false := by
        cases hA : allB l (-1000000) 1000000 with
        | false => rfl
        | true => rw [List.all_eq_true.1 hA _ (List.getElem_mem hk1)] at hw; cases hw
      simp -dsimp [hki, ri]
      repeat' (first | omega | (simp -dsimp [E71, ri, cellp, ints, hki, hk1, hl, hw, hA]) | (refine Also.intro ?_ fun _ => ?_) | (refine Hold.intro fun _ => ?_) | (refine And.intro ?_ ?_))
    · simp -dsimp [hki, ri]
      repeat' (first | omega | (simp -dsimp [E71, ri, cellp, ints, hki, hk1, hl, hw, wk]) | (refine Also.intro ?_ fun _ => ?_) | (refine Hold.intro fun _ => ?_) | (refine And.intro ?_ ?_))
      refine ⟨k + 1, tle_chain rfl ?_, HLe.refl _, ⟨by omega, fun j h hj => ?_⟩, by omega⟩
      · simp [okAll, okv]
      · by_cases hjk : j = k
        · subst hjk; exact hw
        · exact hall j h (by omega)
  · have hkn : ¬ (k : Int) < l.length := by omega
    have hA : allB l (-1000000) 1000000 = true := List.all_eq_true.2 fun x hx => by
      obtain ⟨j, hj, rfl⟩ := List.getElem_of_mem hx
      exact hall j hj (by omega)
    simp -dsimp [hkn]
    repeat' (first | omega | (simp -dsimp [E71, ri, cellp, ints, hkn, hl, hA]) | (refine Also.intro ?_ fun _ => ?_) | (refine Hold.intro fun _ => ?_) | (refine And.intro ?_ ?_))
theorem ok71 : FnOK Tryd.prog 71 (.pure serS) := pure_fn (E := E71) rfl (.cons ok63 .nil) (ok := []) (fn := Tryd.f71) (by kernel_rfl) (by kernel_rfl) (by kernel_rfl) (by kernel_rfl) rfl (fun _ _ => by simp) b71
noncomputable abbrev E17 : Env := { P := Tryd.prog, fn := tbl [], own := [], key := 1700, nt := 80 }
theorem b17 : PureBody E17 [] Tryd.f17 turnS := by
  refine pb ?_
  rintro l hl
  rw [turn_tt l]
  simp -dsimp [Tryd.f17, E17, ints]
  repeat' (first | omega | (simp -dsimp [E17, ri, cellp, ints, hl]) | (refine Also.intro ?_ fun _ => ?_) | (refine Hold.intro fun _ => ?_) | (refine And.intro ?_ ?_))
  refine awp_loop_g [(3, 1733, 1, 3)] rfl (by simp) [7, 8, 9, 10, 13, 14, 15, 16, 17, 18, 19, 20, 21, 22, 23, 24, 25, 26, 27, 28, 29, 30, 31, 32, 33, 3, 11, 12, 4] (fun k : Fin (l.length + 1) => [(4, (true, .int .i64 (k.1 : Nat))), (3, (true, .bsl 1733 0 (dd l k.1).length))])
    (fun k => hps [(1733, { base := 0, blks := [{ z := 1, els := (dd l k.1).map ri, ty := 3 }] })] noH) (fun k => l.length - k.1) ⟨0, by omega⟩ ?_ ?_ ?_
  · simp [okAll, okv, dd]
  · exact (by (try simp -dsimp only [hpush_noH, hpush_hps, hps_over]); refine hle_hps ?_; simp -dsimp [allK, dd]; repeat' (first | (refine And.intro ?_ ?_) | (refine sLe.same ?_ ?_ <;> (simp; done)) | (refine sLe.clear ?_ ?_ <;> (first | (simp; done) | (simp; omega))) | (refine sLe.drop 1 ?_ ?_ ?_ <;> (simp; done))))
  rintro ⟨k, hk⟩
  simp only
  by_cases hk1 : k < l.length
  · have hki : (k : Int) < l.length := by omega
    have wk : IntKind.wrap .i64 ((k : Int) + 1) = (k + 1 : Nat) := wrap_id (by omega) (by omega)
    have hT : dd l (k + 1) = if k = 0 ∨ l.getD k 0 ≠ l.getD (k - 1) 0 then dd l k ++ [l.getD k 0] else dd l k := rfl
    have hTl := dd_len l k
    have e1 : l[k]? = some l[k] := List.getElem?_eq_getElem hk1
    have g1 : l.getD k 0 = l[k] := by simp [List.getD, e1]
    rw [g1] at hT
    generalize hn : l[k] = n at *
    generalize dd l k = T at *
    have hb8 : (T.length + 1) * 8 ≤ 140737488355328 := by omega
    by_cases hk0 : k = 0
    · subst hk0
      rw [if_pos (.inl rfl)] at hT
      have hne : l ≠ [] := fun e => by rw [e] at hk1; simp at hk1
      have w01 : IntKind.wrap .i64 1 = 1 := wrap_id (by omega) (by omega)
      simp -dsimp [hki]
      repeat' (first | omega | (simp -dsimp [E17, ri, cellp, ints, hki, hk1, hne, w01, wk, hn, hl, hb8]) | (refine Also.intro ?_ fun _ => ?_) | (refine Hold.intro fun _ => ?_) | (refine And.intro ?_ ?_))
      refine ⟨⟨0 + 1, by omega⟩, tle_chain rfl ?_, (by (try simp -dsimp only [hpush_noH, hpush_hps, hps_over]); refine hle_hps ?_; simp -dsimp [allK, hT, ri]; repeat' (first | (refine And.intro ?_ ?_) | (refine sLe.same ?_ ?_ <;> (simp; done)) | (refine sLe.clear ?_ ?_ <;> (first | (simp; done) | (simp; omega))) | (refine sLe.drop 1 ?_ ?_ ?_ <;> (simp; done)))), by simp only; omega⟩
      simp [okAll, okv, hT, w01]
    have w1 : IntKind.wrap .i64 ((k : Int) - 1) = (k - 1 : Nat) := by rw [wrap_id (by omega) (by omega)]; omega
    have h2 : k - 1 < l.length := by omega
    have e2 : l[k - 1]? = some l[k - 1] := List.getElem?_eq_getElem h2
    have g2 : l.getD (k - 1) 0 = l[k - 1] := by simp [List.getD, e2]
    rw [g2] at hT
    generalize hx : l[k - 1] = x at *
    by_cases c1 : n = x
    · rw [if_neg (fun h => by rcases h with h | h; exact hk0 h; exact h c1)] at hT
      subst c1
      simp -dsimp [hki]
      repeat' (first | omega | (simp -dsimp [E17, ri, cellp, ints, hki, hk1, hk0, wk, hn, hl, w1, e1, e2, h2, hx]) | (refine Also.intro ?_ fun _ => ?_) | (refine Hold.intro fun _ => ?_) | (refine And.intro ?_ ?_))
      refine ⟨⟨k + 1, by omega⟩, tle_chain rfl ?_, (by (try simp -dsimp only [hpush_noH, hpush_hps, hps_over]); refine hle_hps ?_; simp -dsimp [allK, hT, ri]; repeat' (first | (refine And.intro ?_ ?_) | (refine sLe.same ?_ ?_ <;> (simp; done)) | (refine sLe.clear ?_ ?_ <;> (first | (simp; done) | (simp; omega))) | (refine sLe.drop 1 ?_ ?_ ?_ <;> (simp; done)))), by simp only; omega⟩
      simp [okAll, okv, hT]
    · rw [if_pos (.inr c1)] at hT
      have c1' : (n = x) = False := eq_false c1
      simp -dsimp [hki]
      repeat' (first | omega | (simp -dsimp [E17, ri, cellp, ints, hki, hk1, hk0, wk, hn, hl, w1, e1, e2, h2, hx, c1', hb8]) | (refine Also.intro ?_ fun _ => ?_) | (refine Hold.intro fun _ => ?_) | (refine And.intro ?_ ?_))
      refine ⟨⟨k + 1, by omega⟩, tle_chain rfl ?_, (by (try simp -dsimp only [hpush_noH, hpush_hps, hps_over]); refine hle_hps ?_; simp -dsimp [allK, hT, ri]; repeat' (first | (refine And.intro ?_ ?_) | (refine sLe.same ?_ ?_ <;> (simp; done)) | (refine sLe.clear ?_ ?_ <;> (first | (simp; done) | (simp; omega))) | (refine sLe.drop 1 ?_ ?_ ?_ <;> (simp; done)))), by simp only; omega⟩
      simp [okAll, okv, hT]
  have hke : k = l.length := by omega
  subst hke
  have hTl := dd_len l l.length
  generalize dd l l.length = P at *
  have hkn : ¬ (l.length : Int) < l.length := by omega
  simp -dsimp [hkn]
  repeat' (first | omega | (simp -dsimp [E17, ri, cellp, ints, hkn]) | (refine Also.intro ?_ fun _ => ?_) | (refine Hold.intro fun _ => ?_) | (refine And.intro ?_ ?_))
  clear hkn hk1 hk
  refine awp_loop_g [(5, 1778, 1, 3)] rfl (by simp) [34, 35, 36, 37, 40, 41, 42, 43, 44, 45, 46, 47, 48, 49, 50, 51, 52, 53, 54, 55, 56, 57, 58, 59, 60, 61, 62, 63, 64, 65, 66, 67, 68, 69, 70, 71, 72, 73, 74, 75, 76, 77, 78, 5, 38, 39, 6] (fun k : Fin (P.length + 1) => [(6, (true, .int .i64 (k.1 : Nat))), (5, (true, .bsl 1778 0 (tt P k.1).length))])
    (fun k => hps [(1733, { base := 0, blks := [{ z := 1, els := P.map ri, ty := 3 }] }), (1778, { base := 0, blks := [{ z := 1, els := (tt P k.1).map ri, ty := 3 }] })] noH) (fun k => P.length - k.1) ⟨0, by omega⟩ ?_ ?_ ?_
  · simp [okAll, okv, tt]
  · exact (by (try simp -dsimp only [hpush_noH, hpush_hps, hps_over]); refine hle_hps ?_; simp -dsimp [allK, tt]; repeat' (first | (refine And.intro ?_ ?_) | (refine sLe.same ?_ ?_ <;> (simp; done)) | (refine sLe.clear ?_ ?_ <;> (first | (simp; done) | (simp; omega))) | (refine sLe.drop 1 ?_ ?_ ?_ <;> (simp; done))))
  rintro ⟨k, hk⟩
  simp only
  by_cases hk1 : k < P.length
  · have hki : (k : Int) < P.length := by omega
    have wk : IntKind.wrap .i64 ((k : Int) + 1) = (k + 1 : Nat) := wrap_id (by omega) (by omega)
    have wp : IntKind.wrap .i64 ((P.length : Int) - 1) = (P.length - 1 : Nat) := by rw [wrap_id (by omega) (by omega)]; omega
    have hT : tt P (k + 1) = if k = 0 ∨ k + 1 = P.length ∨ decide (P.getD (k - 1) 0 < P.getD k 0) ≠ decide (P.getD k 0 < P.getD (k + 1) 0) then tt P k ++ [P.getD k 0] else tt P k := rfl
    have hTl2 := tt_len P k
    have e1 : P[k]? = some P[k] := List.getElem?_eq_getElem hk1
    have g1 : P.getD k 0 = P[k] := by simp [List.getD, e1]
    rw [g1] at hT
    generalize hn : P[k] = n at *
    generalize tt P k = T at *
    have hb8 : (T.length + 1) * 8 ≤ 140737488355328 := by omega
    by_cases hk0 : k = 0
    · subst hk0
      rw [if_pos (.inl rfl)] at hT
      have hne : P ≠ [] := fun e => by rw [e] at hk1; simp at hk1
      have w01 : IntKind.wrap .i64 1 = 1 := wrap_id (by omega) (by omega)
      simp -dsimp [hki]
      repeat' (first | omega | (simp -dsimp [E17, ri, cellp, ints, hki, hk1, hne, w01, wk, wp, hn, e1, hl, hb8]) | (refine Also.intro ?_ fun _ => ?_) | (refine Hold.intro fun _ => ?_) | (refine And.intro ?_ ?_))
      refine ⟨⟨0 + 1, by omega⟩, tle_chain rfl ?_, (by (try simp -dsimp only [hpush_noH, hpush_hps, hps_over]); refine hle_hps ?_; simp -dsimp [allK, hT, ri]; repeat' (first | (refine And.intro ?_ ?_) | (refine sLe.same ?_ ?_ <;> (simp; done)) | (refine sLe.clear ?_ ?_ <;> (first | (simp; done) | (simp; omega))) | (refine sLe.drop 1 ?_ ?_ ?_ <;> (simp; done)))), by simp only; omega⟩
      simp [okAll, okv, hT, w01]
    by_cases hke : k + 1 = P.length
    · rw [if_pos (.inr (.inl hke))] at hT
      have hke' : ((k : Int) = ((P.length - 1 : Nat) : Int)) = True := eq_true (by omega)
      have hke2 : (k = P.length - 1) = True := eq_true (by omega)
      have hkb : ((k : Int) == ((P.length - 1 : Nat) : Int)) = true := by simp only [beq_iff_eq]; omega
      simp -dsimp [hki]
      repeat' (first | omega | (simp -dsimp [E17, ri, cellp, ints, hki, hk1, hk0, wk, wp, hke', hke2, hkb, hn, e1, hl, hb8]) | (refine Also.intro ?_ fun _ => ?_) | (refine Hold.intro fun _ => ?_) | (refine And.intro ?_ ?_))
      refine ⟨⟨k + 1, by omega⟩, tle_chain rfl ?_, (by (try simp -dsimp only [hpush_noH, hpush_hps, hps_over]); refine hle_hps ?_; simp -dsimp [allK, hT, ri]; repeat' (first | (refine And.intro ?_ ?_) | (refine sLe.same ?_ ?_ <;> (simp; done)) | (refine sLe.clear ?_ ?_ <;> (first | (simp; done) | (simp; omega))) | (refine sLe.drop 1 ?_ ?_ ?_ <;> (simp; done)))), by simp only; omega⟩
      simp [okAll, okv, hT]
    have hke' : ((k : Int) = ((P.length - 1 : Nat) : Int)) = False := eq_false (by omega)
    have hkb : ((k : Int) == ((P.length - 1 : Nat) : Int)) = false := by simp only [beq_eq_false_iff_ne, ne_eq]; omega
    have hke2 : (k = P.length - 1) = False := eq_false (by omega)
    have w1 : IntKind.wrap .i64 ((k : Int) - 1) = (k - 1 : Nat) := by rw [wrap_id (by omega) (by omega)]; omega
    have h2 : k - 1 < P.length := by omega
    have h3 : k + 1 < P.length := by omega
    have e2 : P[k - 1]? = some P[k - 1] := List.getElem?_eq_getElem h2
    have e3 : P[k + 1]? = some P[k + 1] := List.getElem?_eq_getElem h3
    have g2 : P.getD (k - 1) 0 = P[k - 1] := by simp [List.getD, e2]
    have g3 : P.getD (k + 1) 0 = P[k + 1] := by simp [List.getD, e3]
    rw [g2, g3] at hT
    generalize hx : P[k - 1] = x at *
    generalize hy : P[k + 1] = y at *
    by_cases c1 : decide (x < n) = decide (n < y)
    · rw [if_neg (fun h => by rcases h with h | h | h; exact hk0 h; exact hke h; exact h c1)] at hT
      simp -dsimp [hki]
      repeat' (first | omega | (simp -dsimp [E17, ri, cellp, ints, hki, hk1, hk0, hke', hke2, hkb, wk, wp, hn, hl, w1, e1, e2, e3, h2, h3, hx, hy, c1]) | (refine Also.intro ?_ fun _ => ?_) | (refine Hold.intro fun _ => ?_) | (refine And.intro ?_ ?_))
      refine ⟨⟨k + 1, by omega⟩, tle_chain rfl ?_, (by (try simp -dsimp only [hpush_noH, hpush_hps, hps_over]); refine hle_hps ?_; simp -dsimp [allK, hT, ri]; repeat' (first | (refine And.intro ?_ ?_) | (refine sLe.same ?_ ?_ <;> (simp; done)) | (refine sLe.clear ?_ ?_ <;> (first | (simp; done) | (simp; omega))) | (refine sLe.drop 1 ?_ ?_ ?_ <;> (simp; done)))), by simp only; omega⟩
      simp [okAll, okv, hT]
    · rw [if_pos (.inr (.inr c1))] at hT
      have c1' : (decide (x < n) = decide (n < y)) = False := eq_false c1
      simp -dsimp [hki]
      repeat' (first | omega | (simp -dsimp [E17, ri, cellp, ints, hki, hk1, hk0, hke', hke2, hkb, wk, wp, hn, hl, w1, e1, e2, e3, h2, h3, hx, hy, c1', hb8]) | (refine Also.intro ?_ fun _ => ?_) | (refine Hold.intro fun _ => ?_) | (refine And.intro ?_ ?_))
      refine ⟨⟨k + 1, by omega⟩, tle_chain rfl ?_, (by (try simp -dsimp only [hpush_noH, hpush_hps, hps_over]); refine hle_hps ?_; simp -dsimp [allK, hT, ri]; repeat' (first | (refine And.intro ?_ ?_) | (refine sLe.same ?_ ?_ <;> (simp; done)) | (refine sLe.clear ?_ ?_ <;> (first | (simp; done) | (simp; omega))) | (refine sLe.drop 1 ?_ ?_ ?_ <;> (simp; done)))), by simp only; omega⟩
      simp [okAll, okv, hT]
  have hke : k = P.length := by omega
  subst hke
  have hkn : ¬ (P.length : Int) < P.length := by omega
  simp -dsimp [hkn]
  repeat' (first | omega | (simp -dsimp [E17, ri, cellp, ints, ints, hkn]) | (refine Also.intro ?_ fun _ => ?_) | (refine Hold.intro fun _ => ?_) | (refine And.intro ?_ ?_))
theorem ok17 : FnOK Tryd.prog 17 (.pure turnS) := pure_fn (E := E17) rfl LOK.nil (ok := []) (fn := Tryd.f17) (by kernel_rfl) (by kernel_rfl) (by kernel_rfl) (by kernel_rfl) rfl (fun _ _ => by simp) b17
abbrev sameS : PSpec := { dom := List Int × List Int, enc := fun d => [ints d.1, ints d.2], dec := fun l => ((l.getD 0 .top).toInts, (l.getD 1 .top).toInts), pre := fun d => d.1.length ≤ 9223372036854775807 ∧ d.2.length ≤ 9223372036854775807, res := fun d => .bool (decide (d.1 = d.2)) }
noncomputable abbrev E37 : Env := { P := Tryd.prog, fn := tbl [], own := [], key := 3700, nt := 26 }
theorem b37 : PureBody E37 [] Tryd.f37 sameS := by
  refine pb ?_
  rintro ⟨a, b⟩ ⟨p1, p2⟩
  simp only at p1 p2
  by_cases hl : a.length = b.length
  case neg =>
    have hne : ¬ a = b := fun e => hl (by rw [e])
    have hl' : ¬ (a.length : Int) = b.length := by omega
    simp -dsimp [Tryd.f37, E37, ints, hl']
    repeat' (first | omega | (simp -dsimp [E37, ri, cellp, ints, hl', hne]) | (refine Also.intro ?_ fun _ => ?_) | (refine Hold.intro fun _ => ?_) | (refine And.intro ?_ ?_))
  have hl' : (a.length : Int) = b.length := by omega
  simp -dsimp [Tryd.f37, E37, ints, hl']
  refine awp_loop [11, 12, 13, 14, 17, 18, 19, 20, 21, 22, 23, 24, 25, 4, 15, 16, 5]
    (fun k : { k : Nat // k ≤ a.length ∧ ∀ i (h1 : i < a.length) (h2 : i < b.length), i < k → a[i] = b[i] } => [(5, (true, .int .i64 (k.1 : Nat)))])
    (fun k => noH) (fun k => a.length - k.1) ⟨0, by omega, fun _ _ _ h => by omega⟩ ?_ (HLe.refl _) ?_
  · simp [okAll, okv]
  rintro ⟨k, hk, he⟩
  simp only
  by_cases hk1 : k < a.length
  · have hk2 : k < b.length := by omega
    have w1 : IntKind.wrap .i64 ((k : Int) + 1) = (k + 1 : Nat) := wrap_id (by omega) (by omega)
    by_cases hx : a[k] = b[k]
    · simp -dsimp [hk1, hk2, hx, ri]
      repeat' (first | omega | (simp -dsimp [E37, ri, cellp, ints, hk1, hk2, hx, w1]) | (refine Also.intro ?_ fun _ => ?_) | (refine Hold.intro fun _ => ?_) | (refine And.intro ?_ ?_))
      refine ⟨k + 1, tle_chain rfl ?_, HLe.refl _, ⟨hk1, fun i h1 h2 hi => ?_⟩, by omega⟩
      · simp [okAll, okv]
      · by_cases e : i = k
        · subst e; exact hx
        · exact he i h1 h2 (by omega)
    · have hne : ¬ a = b := fun e => hx (by simp [e])
      simp -dsimp [hk1, hk2, hx, ri]
      repeat' (first | omega | (simp -dsimp [E37, ri, cellp, ints, hk1, hk2, hx, w1, hne]) | (refine Also.intro ?_ fun _ => ?_) | (refine Hold.intro fun _ => ?_) | (refine And.intro ?_ ?_))
  · have hkb : ¬ k < b.length := by omega
    have heq : a = b := List.ext_getElem hl fun i h1 h2 => he i h1 h2 (by omega)
    simp -dsimp [hk1, hkb]
    repeat' (first | omega | (simp -dsimp [E37, ri, cellp, ints, hk1, hkb, heq]) | (refine Also.intro ?_ fun _ => ?_) | (refine Hold.intro fun _ => ?_) | (refine And.intro ?_ ?_))
theorem ok37 : FnOK Tryd.prog 37 (.pure sameS) := pure_fn (E := E37) rfl LOK.nil (ok := []) (fn := Tryd.f37) (by kernel_rfl) (by kernel_rfl) (by kernel_rfl) (by kernel_rfl) rfl (fun _ _ => by simp) b37
def prs (l : List (Int × Int)) : V := .sl 2 (l.map cycV)
def _root_.Go.Sx.V.toPrs (v : V) : List (Int × Int) := v.rows.map cycOf
@[simp] theorem toPrs_prs (l : List (Int × Int)) : (prs l).toPrs = l := by
  simp only [prs, V.toPrs, V.rows, List.map_map]
  exact (List.map_congr_left (fun p _ => cycOf_V p)).trans (List.map_id l)
abbrev samePS : PSpec := { dom := List (Int × Int) × List (Int × Int), enc := fun d => [prs d.1, prs d.2], dec := fun l => ((l.getD 0 .top).toPrs, (l.getD 1 .top).toPrs), pre := fun d => d.1.length ≤ 9223372036854775807 ∧ d.2.length ≤ 9223372036854775807, res := fun d => .bool (decide (d.1 = d.2)) }
noncomputable abbrev E18 : Env := { P := Tryd.prog, fn := tbl [], own := [], key := 1800, nt := 26 }
theorem b18 : PureBody E18 [] Tryd.f18 samePS := by
  refine pb ?_
  rintro ⟨a, b⟩ ⟨p1, p2⟩
  simp only at p1 p2
  by_cases hl : a.length = b.length
  case neg =>
    have hne : ¬ a = b := fun e => hl (by rw [e])
    have hl' : ¬ (a.length : Int) = b.length := by omega
    simp -dsimp [Tryd.f18, E18, prs, hl']
    repeat' (first | omega | (simp -dsimp [E18, ri, cellp, ints, hl', hne]) | (refine Also.intro ?_ fun _ => ?_) | (refine Hold.intro fun _ => ?_) | (refine And.intro ?_ ?_))
  have hl' : (a.length : Int) = b.length := by omega
  simp -dsimp [Tryd.f18, E18, prs, hl']
  refine awp_loop [11, 12, 13, 14, 17, 18, 19, 20, 21, 22, 23, 24, 25, 4, 15, 16, 5]
    (fun k : { k : Nat // k ≤ a.length ∧ ∀ i (h1 : i < a.length) (h2 : i < b.length), i < k → a[i] = b[i] } => [(5, (true, .int .i64 (k.1 : Nat)))])
    (fun k => noH) (fun k => a.length - k.1) ⟨0, by omega, fun _ _ _ h => by omega⟩ ?_ (HLe.refl _) ?_
  · simp [okAll, okv]
  rintro ⟨k, hk, he⟩
  simp only
  by_cases hk1 : k < a.length
  · have hk2 : k < b.length := by omega
    have w1 : IntKind.wrap .i64 ((k : Int) + 1) = (k + 1 : Nat) := wrap_id (by omega) (by omega)
    by_cases hx : a[k] = b[k]
    · simp -dsimp [hk1, hk2, hx, cycV]
      repeat' (first | omega | (simp -dsimp [E18, ri, cellp, ints, hk1, hk2, hx, w1, cycV]) | (refine Also.intro ?_ fun _ => ?_) | (refine Hold.intro fun _ => ?_) | (refine And.intro ?_ ?_))
      refine ⟨k + 1, tle_chain rfl ?_, HLe.refl _, ⟨hk1, fun i h1 h2 hi => ?_⟩, by omega⟩
      · simp [okAll, okv]
      · by_cases e : i = k
        · subst e; exact hx
        · exact he i h1 h2 (by omega)
    · have hne : ¬ a = b := fun e => hx (by simp [e])
      have hx2 : ((a[k].1 == b[k].1) && (a[k].2 == b[k].2)) = false := by
        cases h : ((a[k].1 == b[k].1) && (a[k].2 == b[k].2)) with
        | false => rfl
        | true =>
          simp only [Bool.and_eq_true, beq_iff_eq] at h
          exact absurd (Prod.ext h.1 h.2) hx
      simp -dsimp [hk1, hk2, hx2, cycV]
      repeat' (first | omega | (simp -dsimp [E18, ri, cellp, ints, hk1, hk2, hx2, w1, hne, cycV]) | (refine Also.intro ?_ fun _ => ?_) | (refine Hold.intro fun _ => ?_) | (refine And.intro ?_ ?_))
  · have hkb : ¬ k < b.length := by omega
    have heq : a = b := List.ext_getElem hl fun i h1 h2 => he i h1 h2 (by omega)
    simp -dsimp [hk1, hkb]
    repeat' (first | omega | (simp -dsimp [E18, ri, cellp, ints, hk1, hkb, heq]) | (refine Also.intro ?_ fun _ => ?_) | (refine Hold.intro fun _ => ?_) | (refine And.intro ?_ ?_))
theorem ok18 : FnOK Tryd.prog 18 (.pure samePS) := pure_fn (E := E18) rfl LOK.nil (ok := []) (fn := Tryd.f18) (by kernel_rfl) (by kernel_rfl) (by kernel_rfl) (by kernel_rfl) rfl (fun _ _ => by simp) b18
end Go.Sx
end
section
/- Parts: the hangar as a state, and how the heap holds it. No conditions. -/
set_option linter.unusedSimpArgs false
set_option linter.unusedSectionVars false
namespace Go.Sx

structure Kd where
  hours : Int
  cycles : Int
  places : Int
  deriving DecidableEq, Inhabited
structure Pt where
  kind : Int
  hours : Int
  cycles : Int
  known : Bool
  deriving DecidableEq, Inhabited
structure Od where
  kind : Int
  within : Int
  deriving DecidableEq, Inhabited
structure Wk where
  kind : Int
  a : Int
  b : Int
  c : Int
  deriving DecidableEq, Inhabited
structure Stt where
  machine : Int
  place : Int
  fro : Int
  to : Int
  hours : Int
  cycles : Int
  deriving DecidableEq, Inhabited
structure Reg where
  kinds : List Kd
  parts : List Pt
  machines : Int
  orders : List Od
  deriving Inhabited
/-- A part as it stands. -/
structure PS where
  kind : Int
  hours : Int
  cycles : Int
  known : Bool
  a : Int
  b : Int
  since : List Int
  chk : List Bool
  deriving Inhabited
/-- A register with its works. -/
structure HG where
  r : Reg
  ps : List PS
  iss : List Bool
  fl : List (Int × Int)
  wk : Int
  hi : List (Option (Nat × Nat))
  hb : List (List Stt)
  hcl : Bool
  deriving Inhabited

def Kd.row (k : Kd) : List V := [.int .i64 k.hours, .int .i64 k.cycles, .int .i64 k.places]
def Pt.row (p : Pt) : List V := [.int .i64 p.kind, .int .i64 p.hours, .int .i64 p.cycles, .bool p.known]
def Od.row (o : Od) : List V := [.int .i64 o.kind, .int .i64 o.within]
def Wk.row (w : Wk) : List V := [.int .i64 w.kind, .int .i64 w.a, .int .i64 w.b, .int .i64 w.c]
def Stt.row (t : Stt) : List V := [.int .i64 t.machine, .int .i64 t.place, .int .i64 t.fro, .int .i64 t.to, .int .i64 t.hours, .int .i64 t.cycles]
def Reg.row (r : Reg) : List V := [.sl 3 (r.kinds.map Kd.row), .sl 4 (r.parts.map Pt.row), .int .i64 r.machines, .sl 2 (r.orders.map Od.row)]
def rb (b : Bool) : List V := [.bool b]
/-- The list of the parts: nil if there are none. -/
def ptsV (n : Nat) : V := if n = 0 then .nil else .bsl 8645 0 n
def ptsB (n : Nat) : List Blk := if n = 0 then [] else [{ z := 1, els := (List.range n).map fun k => [.bptr 8643 k 1 0 0], ty := 93, cl := false }]
def hiV : Option (Nat × Nat) → V
  | none => .nil
  | some (i, n) => .bsl 10215 i n
def PS.row (p : PS) (k : Nat) : List V := [.int .i64 p.kind, .int .i64 p.hours, .int .i64 p.cycles, .bool p.known, .int .i64 p.a, .int .i64 p.b, .bsl 8637 k p.since.length, .bsl 8641 k p.chk.length]
def PS.blk (k : Nat) (p : PS) : Blk := { z := 8, els := [p.row k], ty := 97, cl := false }
def HG.row (s : HG) : List V := [.sl 3 (s.r.kinds.map Kd.row), .sl 4 (s.r.parts.map Pt.row), .int .i64 s.r.machines, .sl 2 (s.r.orders.map Od.row), ptsV s.ps.length, .bsl 8610 0 s.iss.length, .bsl 8613 0 s.fl.length, .int .i64 s.wk, .bsl 8617 0 s.hi.length]
def sinB (p : PS) : Blk := { z := 1, els := p.since.map ri, ty := 3 }
def chkB (p : PS) : Blk := { z := 1, els := p.chk.map rb, ty := 4 }
def hbB (l : List Stt) : Blk := { z := 6, els := l.map Stt.row, ty := 61 }
def hgL (s : HG) : List (Nat × Site) :=
  [(8619, { base := 0, blks := [{ z := 9, els := [s.row], ty := 113, cl := false }] }),
   (8645, { base := 0, blks := ptsB s.ps.length }),
   (8643, { base := 0, blks := s.ps.mapIdx PS.blk }),
   (8637, { base := 0, blks := s.ps.map sinB }),
   (8641, { base := 0, blks := s.ps.map chkB }),
   (8610, { base := 0, blks := [{ z := 1, els := s.iss.map rb, ty := 4 }] }),
   (8613, { base := 0, blks := [{ z := 2, els := s.fl.map cycV, ty := 94 }] }),
   (8617, { base := 0, blks := [{ z := 1, els := s.hi.map fun o => [hiV o], ty := 57, cl := s.hcl }] }),
   (10215, { base := 0, blks := s.hb.map hbB })]
abbrev hkeys : List Nat := [8619, 8645, 8643, 8637, 8641, 8610, 8613, 8617, 10215]
theorem hgL_keys (s : HG) : (hgL s).map (·.1) = hkeys := rfl

section inj
theorem map_inj {α β : Type} {f : α → β} (hf : ∀ a b, f a = f b → a = b) : ∀ {l l' : List α}, l.map f = l'.map f → l = l'
  | [], [], _ => rfl
  | [], _ :: _, h => by simp at h
  | _ :: _, [], h => by simp at h
  | a :: l, b :: l', h => by
    simp only [List.map_cons, List.cons.injEq] at h
    rw [hf _ _ h.1, map_inj hf h.2]
theorem Kd.row_inj (a b : Kd) (h : a.row = b.row) : a = b := by
  cases a; cases b; simp [Kd.row] at h; simp [h]
theorem Pt.row_inj (a b : Pt) (h : a.row = b.row) : a = b := by
  cases a; cases b; simp [Pt.row] at h; simp [h]
theorem Od.row_inj (a b : Od) (h : a.row = b.row) : a = b := by
  cases a; cases b; simp [Od.row] at h; simp [h]
theorem Wk.row_inj (a b : Wk) (h : a.row = b.row) : a = b := by
  cases a; cases b; simp [Wk.row] at h; simp [h]
theorem Stt.row_inj (a b : Stt) (h : a.row = b.row) : a = b := by
  cases a; cases b; simp [Stt.row] at h; simp [h]
theorem rb_inj (a b : Bool) (h : rb a = rb b) : a = b := by simpa [rb] using h
theorem cycR_inj (a b : Int × Int) (h : cycV a = cycV b) : a = b := by
  cases a; cases b; simp [cycV] at h; simp [h]
theorem hiV_inj (a b : Option (Nat × Nat)) (h : [hiV a] = [hiV b]) : a = b := by
  cases a with
  | none => cases b with
    | none => rfl
    | some b => simp [hiV] at h
  | some a => cases b with
    | none => simp [hiV] at h
    | some b => simp [hiV] at h; simp [Prod.ext_iff, h]
theorem Reg.row_inj (a b : Reg) (h : a.row = b.row) : a = b := by
  cases a; cases b
  simp only [Reg.row, List.cons.injEq, V.sl.injEq, V.int.injEq, true_and, and_true] at h
  simp only [Reg.mk.injEq]
  exact ⟨map_inj Kd.row_inj h.1, map_inj Pt.row_inj h.2.1, h.2.2.1, map_inj Od.row_inj h.2.2.2⟩
theorem hgL_inj (s s' : HG) (h : ∀ k ∈ hkeys, hps (hgL s) noH k = hps (hgL s') noH k) : s = s' := by
  have h1 := h 8619 (by simp)
  have h3 := h 8643 (by simp)
  have h4 := h 8637 (by simp)
  have h5 := h 8641 (by simp)
  have h6 := h 8610 (by simp)
  have h7 := h 8613 (by simp)
  have h8 := h 8617 (by simp)
  have h9 := h 10215 (by simp)
  clear h
  have e1 : s.row = s'.row := by
    have := congrArg Site.blks h1
    simpa [hgL, hps_cons] using this
  have e3 : s.ps.mapIdx PS.blk = s'.ps.mapIdx PS.blk := congrArg Site.blks h3
  have e4 : s.ps.map sinB = s'.ps.map sinB := congrArg Site.blks h4
  have e5 : s.ps.map chkB = s'.ps.map chkB := congrArg Site.blks h5
  have e6 : s.iss.map rb = s'.iss.map rb := by
    have := congrArg Site.blks h6
    simpa [hgL, hps_cons] using this
  have e7 : s.fl.map cycV = s'.fl.map cycV := by
    have := congrArg Site.blks h7
    simpa [hgL, hps_cons] using this
  have e8 : (s.hi.map fun o => [hiV o]) = (s'.hi.map fun o => [hiV o]) := by
    have := congrArg Site.blks h8
    simp only [hgL, hps_cons] at this
    simp at this
    exact this.1
  have e10 : s.hcl = s'.hcl := by
    have := congrArg Site.blks h8
    simp only [hgL, hps_cons] at this
    simp at this
    exact this.2
  have e9 : s.hb.map hbB = s'.hb.map hbB := congrArg Site.blks h9
  clear h1 h3 h4 h5 h6 h7 h8 h9
  obtain ⟨r, ps, iss, fl, wk, hi, hb, hcl⟩ := s
  obtain ⟨r', ps', iss', fl', wk', hi', hb', hcl'⟩ := s'
  simp only at *
  simp only [HG.row, List.cons.injEq] at e1
  obtain ⟨a1, a2, a3, a4, a5, a6, a7, a8, a9⟩ := e1
  have er : r = r' := Reg.row_inj _ _ (by simp only [Reg.row, a1, a2, a3, a4])
  have ehb : hb = hb' := map_inj (f := hbB) (fun a b h => map_inj Stt.row_inj (by simpa [hbB] using congrArg Blk.els h)) e9
  simp only [HG.mk.injEq]
  refine ⟨er, ?_, map_inj rb_inj e6, map_inj cycR_inj e7, ?_, map_inj hiV_inj e8, ehb, e10⟩
  · refine List.ext_getElem? fun i => ?_
    have x3 := congrArg (·[i]?) e3
    have x4 := congrArg (·[i]?) e4
    have x5 := congrArg (·[i]?) e5
    simp only [List.getElem?_mapIdx, List.getElem?_map] at x3 x4 x5
    cases hp : ps[i]? with
    | none => cases hp' : ps'[i]? with
      | none => rfl
      | some p' => rw [hp, hp'] at x3; simp at x3
    | some p => cases hp' : ps'[i]? with
      | none => rw [hp, hp'] at x3; simp at x3
      | some p' =>
        rw [hp, hp'] at x3 x4 x5
        simp only [Option.map_some, Option.some.injEq, PS.blk, PS.row, sinB, chkB, Blk.mk.injEq, List.cons.injEq, V.int.injEq, V.bool.injEq] at x3 x4 x5
        have y4 := map_ri_inj x4.2.1
        have y5 := map_inj rb_inj x5.2.1
        cases p; cases p'
        simp_all
  · simp only [V.int.injEq] at a8; exact a8.2
end inj

section rw
variable [Gls]
variable (s : HG) (h : Hp)
@[simp] theorem g8619 : Ob hgL s h 8619 = { base := 0, blks := [{ z := 9, els := [[.sl 3 (s.r.kinds.map Kd.row), .sl 4 (s.r.parts.map Pt.row), .int .i64 s.r.machines, .sl 2 (s.r.orders.map Od.row), ptsV s.ps.length, .bsl 8610 0 s.iss.length, .bsl 8613 0 s.fl.length, .int .i64 s.wk, .bsl 8617 0 s.hi.length]], ty := 113, cl := false }] } := rfl
@[simp] theorem g8645 : Ob hgL s h 8645 = { base := 0, blks := ptsB s.ps.length } := rfl
@[simp] theorem g8643 : Ob hgL s h 8643 = { base := 0, blks := s.ps.mapIdx PS.blk } := rfl
@[simp] theorem g8637 : Ob hgL s h 8637 = { base := 0, blks := s.ps.map sinB } := rfl
@[simp] theorem g8641 : Ob hgL s h 8641 = { base := 0, blks := s.ps.map chkB } := rfl
@[simp] theorem g8610 : Ob hgL s h 8610 = { base := 0, blks := [{ z := 1, els := s.iss.map rb, ty := 4 }] } := rfl
@[simp] theorem g8613 : Ob hgL s h 8613 = { base := 0, blks := [{ z := 2, els := s.fl.map cycV, ty := 94 }] } := rfl
@[simp] theorem g8617 : Ob hgL s h 8617 = { base := 0, blks := [{ z := 1, els := s.hi.map fun o => [hiV o], ty := 57, cl := s.hcl }] } := rfl
@[simp] theorem g10215 : Ob hgL s h 10215 = { base := 0, blks := s.hb.map hbB } := rfl
@[simp] theorem g_ne {k : Nat} (hn : hkeys.contains k = false) : Ob hgL s h k = h k := ob_ne hgL_keys hn
@[simp] theorem g_g (s' : HG) : Ob hgL s (Ob hgL s' h) = Ob hgL s h := ob_ob hgL_keys _ _ _
@[simp] theorem g_hget (k i : Nat) : hget (Ob hgL s h) k i = if i < (Ob hgL s h k).base then none else (Ob hgL s h k).blks[i - (Ob hgL s h k).base]? := rfl
@[simp] theorem g_hnext (k : Nat) : hnext (Ob hgL s h) k = (Ob hgL s h k).base + (Ob hgL s h k).blks.length := rfl
@[simp] theorem g_hpush {k : Nat} (hn : hkeys.contains k = false) (B : Blk) : hpush (Ob hgL s h) k B = Ob hgL s (hpush h k B) := ob_hpush hgL_keys hn B
theorem g_hset {k i : Nat} (hn : hkeys.contains k = false) (B : Blk) : hset (Ob hgL s h) k i B = Ob hgL s (hset h k i B) := ob_hset hgL_keys hn B
@[simp] theorem g_over {k : Nat} {S : Site} {L : List (Nat × Site)} (hn : (((k, S) :: L).all fun p => !hkeys.contains p.1) = true) : hps ((k, S) :: L) (Ob hgL s h) = Ob hgL s (hps ((k, S) :: L) h) := ob_over hgL_keys hn
end rw
theorem hps_nil' (h : Hp) : hps [] h = h := rfl
@[simp high] theorem len_ptsV (n : Nat) : (ptsV n).len = some n := by
  unfold ptsV; split
  · rename_i e; subst e; rfl
  · rfl
theorem ptsV_ne {n : Nat} (h : 0 < n) : ptsV n = .bsl 8645 0 n := by unfold ptsV; rw [if_neg (by omega)]
theorem ptsB_ne {n : Nat} (h : 0 < n) : ptsB n = [{ z := 1, els := (List.range n).map fun k => [.bptr 8643 k 1 0 0], ty := 93, cl := false }] := by unfold ptsB; rw [if_neg (by omega)]
theorem mapIdx_get {ps : List PS} {k : Nat} {p : PS} (h : ps[k]? = some p) : (ps.mapIdx PS.blk)[k]? = some { z := 8, els := [[.int .i64 p.kind, .int .i64 p.hours, .int .i64 p.cycles, .bool p.known, .int .i64 p.a, .int .i64 p.b, .bsl 8637 k p.since.length, .bsl 8641 k p.chk.length]], ty := 97, cl := false } := by
  rw [List.getElem?_mapIdx, h]; rfl
section wr
variable [Gls] {s : HG} {h : Hp} {i j : Nat} {p : PS}
theorem set_id {α : Type} {l : List α} {i : Nat} {x : α} (h : l[i]? = some x) : l.set i x = l := by
  refine List.ext_getElem? fun n => ?_
  rw [List.getElem?_set]
  split
  · rename_i e; subst e; split
    · exact h.symm
    · rename_i e2; rw [List.getElem?_eq_none (by omega)]
  · rfl
theorem map_set_id {α β : Type} {f : α → β} {l : List α} {i : Nat} {x y : α} (h : l[i]? = some x) (e : f y = f x) : (l.set i y).map f = l.map f := by
  rw [List.map_set, e, set_id (by rw [List.getElem?_map, h]; rfl)]
theorem w_part (hp : s.ps[i]? = some p) (a b c e f : Int) (d : Bool) :
    hset (Ob hgL s h) 8643 i { z := 8, els := [[.int .i64 a, .int .i64 b, .int .i64 c, .bool d, .int .i64 e, .int .i64 f, .bsl 8637 i p.since.length, .bsl 8641 i p.chk.length]], ty := 97, fz := false, cl := false } = Ob hgL { s with ps := s.ps.set i ⟨a, b, c, d, e, f, p.since, p.chk⟩ } h := by
  refine ob_write hgL_keys (by simp) (fun k hk hne => ?_) ?_
  · simp only [hkeys, List.mem_cons, List.not_mem_nil, or_false] at hk
    rcases hk with rfl | rfl | rfl | rfl | rfl | rfl | rfl | rfl | rfl <;> simp at hne ⊢
    · exact set_id (by rw [List.getElem?_map, hp]; rfl)
    · exact set_id (by rw [List.getElem?_map, hp]; rfl)
  · simp only [g8643, Nat.sub_zero]
    rw [List.mapIdx_set]
    rfl
theorem w_since (hp : s.ps[i]? = some p) (x : Int) :
    hset (Ob hgL s h) 8637 i { z := 1, els := (p.since.map ri).set j [.int .i64 x], ty := 3, fz := false, cl := true } = Ob hgL { s with ps := s.ps.set i { p with since := p.since.set j x } } h := by
  refine ob_write hgL_keys (by simp) (fun k hk hne => ?_) ?_
  · simp only [hkeys, List.mem_cons, List.not_mem_nil, or_false] at hk
    rcases hk with rfl | rfl | rfl | rfl | rfl | rfl | rfl | rfl | rfl <;> simp at hne ⊢
    · exact set_id (by rw [mapIdx_get hp]; simp [PS.blk, PS.row])
    · exact set_id (by rw [List.getElem?_map, hp]; rfl)
  · simp only [g8637, Nat.sub_zero, List.map_set, sinB, ri]
theorem w_chk (hp : s.ps[i]? = some p) (x : Bool) :
    hset (Ob hgL s h) 8641 i { z := 1, els := (p.chk.map rb).set j [.bool x], ty := 4, fz := false, cl := true } = Ob hgL { s with ps := s.ps.set i { p with chk := p.chk.set j x } } h := by
  refine ob_write hgL_keys (by simp) (fun k hk hne => ?_) ?_
  · simp only [hkeys, List.mem_cons, List.not_mem_nil, or_false] at hk
    rcases hk with rfl | rfl | rfl | rfl | rfl | rfl | rfl | rfl | rfl <;> simp at hne ⊢
    · exact set_id (by rw [mapIdx_get hp]; simp [PS.blk, PS.row])
    · exact set_id (by rw [List.getElem?_map, hp]; rfl)
  · simp only [g8641, Nat.sub_zero, List.map_set, chkB, rb]
theorem w_iss (x : Bool) :
    hset (Ob hgL s h) 8610 0 { z := 1, els := (s.iss.map rb).set j [.bool x], ty := 4, fz := false, cl := true } = Ob hgL { s with iss := s.iss.set j x } h := by
  refine ob_write hgL_keys (by simp) (fun k hk hne => ?_) ?_
  · simp only [hkeys, List.mem_cons, List.not_mem_nil, or_false] at hk
    rcases hk with rfl | rfl | rfl | rfl | rfl | rfl | rfl | rfl | rfl <;> simp at hne ⊢
  · simp [rb]
theorem w_fl (x y : Int) :
    hset (Ob hgL s h) 8613 0 { z := 2, els := (s.fl.map cycV).set j [.int .i64 x, .int .i64 y], ty := 94, fz := false, cl := true } = Ob hgL { s with fl := s.fl.set j (x, y) } h := by
  refine ob_write hgL_keys (by simp) (fun k hk hne => ?_) ?_
  · simp only [hkeys, List.mem_cons, List.not_mem_nil, or_false] at hk
    rcases hk with rfl | rfl | rfl | rfl | rfl | rfl | rfl | rfl | rfl <;> simp at hne ⊢
  · simp [cycV]
theorem w_wk (x : Int) :
    hset (Ob hgL s h) 8619 0 { z := 9, els := [[.sl 3 (s.r.kinds.map Kd.row), .sl 4 (s.r.parts.map Pt.row), .int .i64 s.r.machines, .sl 2 (s.r.orders.map Od.row), ptsV s.ps.length, .bsl 8610 0 s.iss.length, .bsl 8613 0 s.fl.length, .int .i64 x, .bsl 8617 0 s.hi.length]], ty := 113, fz := false, cl := false } = Ob hgL { s with wk := x } h := by
  refine ob_write hgL_keys (by simp) (fun k hk hne => ?_) ?_
  · simp only [hkeys, List.mem_cons, List.not_mem_nil, or_false] at hk
    rcases hk with rfl | rfl | rfl | rfl | rfl | rfl | rfl | rfl | rfl <;> simp at hne ⊢
  · simp
theorem w_hi (x : Nat × Nat) :
    hset (Ob hgL s h) 8617 0 { z := 1, els := (s.hi.map fun o => [hiV o]).set j [.bsl 10215 x.1 x.2], ty := 57, fz := false, cl := false } = Ob hgL { s with hi := s.hi.set j (some x), hcl := false } h := by
  refine ob_write hgL_keys (by simp) (fun k hk hne => ?_) ?_
  · simp only [hkeys, List.mem_cons, List.not_mem_nil, or_false] at hk
    rcases hk with rfl | rfl | rfl | rfl | rfl | rfl | rfl | rfl | rfl <;> simp at hne ⊢
  · simp [List.map_set, hiV]
theorem w_hb (l : List Stt) :
    hset (Ob hgL s h) 10215 i (hbB l) = Ob hgL { s with hb := s.hb.set i l } h := by
  refine ob_write hgL_keys (by simp) (fun k hk hne => ?_) ?_
  · simp only [hkeys, List.mem_cons, List.not_mem_nil, or_false] at hk
    rcases hk with rfl | rfl | rfl | rfl | rfl | rfl | rfl | rfl | rfl <;> simp at hne ⊢
  · simp [List.map_set]
theorem p_hb (l : List Stt) :
    hpush (Ob hgL s h) 10215 (hbB l) = Ob hgL { s with hb := s.hb ++ [l] } h := by
  funext k
  by_cases hk : k = 10215
  · subst hk; simp [hpush]
  · simp only [hpush, hk, if_false]
    by_cases hkk : k ∈ hkeys
    · simp only [hkeys, List.mem_cons, List.not_mem_nil, or_false] at hkk
      rcases hkk with rfl | rfl | rfl | rfl | rfl | rfl | rfl | rfl | rfl <;> simp at hk ⊢
    · have : hkeys.contains k = false := by simpa [List.contains_eq_mem] using hkk
      rw [g_ne _ _ this, g_ne _ _ this]
end wr
end Go.Sx
end
