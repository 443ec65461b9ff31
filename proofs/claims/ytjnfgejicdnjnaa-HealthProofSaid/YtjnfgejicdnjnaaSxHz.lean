/- HealthExplains: the reference's explanation and Explain. No conditions. -/
import Derived.Test.YtjnfgejicdnjnaaSxHy
set_option linter.unusedSimpArgs false
set_option linter.unusedVariables false
set_option maxRecDepth 100000
set_option maxHeartbeats 1000000
namespace Go.Sx
open Go.Proofs

theorem mem_memTo {set s : Nat} {a : Int} (h0 : 0 ≤ a) (h1 : a < s) : (a ∈ natI (memTo set s)) ↔ set.testBit a.toNat = true := by
  obtain ⟨n, rfl⟩ := Int.eq_ofNat_of_zero_le h0
  rw [mem_natI, memTo, List.mem_filter, List.mem_range, Int.toNat_natCast]
  exact ⟨fun h => h.2, fun h => ⟨by omega, h⟩⟩
/-- The gears so far, and this one if a cell so far asks for it. -/
def wlTo (set : Nat) (cells : List (Int × Int)) (g i : Nat) : List Nat := wornX 0 set cells g ++ if (cells.take i).any (cellHit set g) then [g] else []
theorem wlTo_zero (set : Nat) (cells : List (Int × Int)) (g : Nat) : wlTo set cells g 0 = wornX 0 set cells g := by simp [wlTo]
theorem wlTo_all (set : Nat) (cells : List (Int × Int)) (g : Nat) : wlTo set cells g cells.length = wornX 0 set cells (g + 1) := by
  rw [wornX_succ, wlTo, List.take_of_length_le (Nat.le_refl _)]
theorem take_any {cells : List (Int × Int)} {p : Int × Int → Bool} {i : Nat} (h : i < cells.length) : (cells.take (i + 1)).any p = ((cells.take i).any p || p cells[i]) := by
  rw [List.take_succ_eq_append_getElem h, List.any_append]; simp
theorem wlTo_same {set : Nat} {cells : List (Int × Int)} {g i : Nat} (hi : i < cells.length) (h : (cells.take i).any (cellHit set g) = true ∨ cellHit set g cells[i] = false) : wlTo set cells g (i + 1) = wlTo set cells g i := by
  unfold wlTo
  rw [take_any hi]
  rcases h with h | h
  · rw [h, Bool.true_or]
  · rw [h, Bool.or_false]
theorem wlTo_new {set : Nat} {cells : List (Int × Int)} {g i : Nat} (hi : i < cells.length) (h : (cells.take i).any (cellHit set g) = false) (h2 : cellHit set g cells[i] = true) : wlTo set cells g (i + 1) = wlTo set cells g i ++ [g] := by
  unfold wlTo
  rw [take_any hi]
  simp [h, h2]
theorem mem_wlTo {set : Nat} {cells : List (Int × Int)} {g i : Nat} : ((g : Int) ∈ natI (wlTo set cells g i)) ↔ (cells.take i).any (cellHit set g) = true := by
  rw [mem_natI, wlTo, List.mem_append]
  have := wornX_not 0 set cells g
  split
  · rename_i h; simp [h]
  · rename_i h; simp [h, this]
theorem wlTo_len (set : Nat) (cells : List (Int × Int)) (g i : Nat) : (wlTo set cells g i).length ≤ g + 1 := by
  unfold wlTo wornX
  have := List.length_filter_le (fun g => cells.any (cellHit set g)) (List.range g)
  rw [List.length_range] at this
  rw [List.length_append]
  split <;> simp <;> omega
theorem wornX_len (set : Nat) (cells : List (Int × Int)) (g : Nat) : (wornX 0 set cells g).length ≤ g := by
  have := List.length_filter_le (fun g => cells.any (cellHit set g)) (List.range g)
  rw [List.length_range] at this; exact this
abbrev expnS : PSpec := { dom := Int × Int × Nat × List (Int × Int), enc := fun d => [.int .i64 d.1, .int .i64 d.2.1, .int .i64 (d.2.2.1 : Int), .sl 2 (d.2.2.2.map rowC)], dec := fun l => ((l.getD 0 .top).toInt, (l.getD 1 .top).toInt, (l.getD 2 .top).toInt.toNat, (l.getD 3 .top).toCells), pre := fun d => okCells d.1 d.2.1 d.2.2.2 = true ∧ d.2.2.1 < 2 ^ d.1.toNat ∧ d.2.2.2.length ≤ 9223372036854775807, res := fun d => .tup [ints (exS (bysN d.1 d.2.2.2) d.2.2.1).1, ints (exS (bysN d.1 d.2.2.2) d.2.2.1).2] }
noncomputable abbrev E68 : Env := { P := Try.prog, fn := tbl [(82, .pure hasS)], own := [], key := 6800, nt := 70 }
theorem b68 : PureBody E68 [] Try.f68 expnS := by
  refine pb ?_
  rintro ⟨se, ge, set, cells⟩ ⟨hv, hset, hl⟩
  simp only at hv hset hl
  obtain ⟨q1, q2, q3, q4⟩ := okCells_facts hv
  have q5 : 1 ≤ ge ∧ ge ≤ 12 := by simp only [okCells, Bool.and_eq_true, withinB, decide_eq_true_eq] at hv; omega
  obtain ⟨S, rfl⟩ := Int.eq_ofNat_of_zero_le (show 0 ≤ se by omega)
  obtain ⟨G, rfl⟩ := Int.eq_ofNat_of_zero_le (show 0 ≤ ge by omega)
  rw [Int.toNat_natCast] at hset
  have hx1 : (exS (bysN S cells) set).1 = natI (memTo set S) := by simp only [exS]; rw [memN_lt (by omega) hset]
  have hx2 : (exS (bysN S cells) set).2 = natI (wornX 0 set cells G) := by simp only [exS]; rw [wornX_eq hv]; rfl
  have hset2 : set < 256 := Nat.lt_of_lt_of_le hset (Nat.le_trans (Nat.pow_le_pow_right (by decide) (show S ≤ 8 by omega)) (by decide))
  rw [hx1, hx2]
  clear hx1 hx2 q3 q4
  simp -dsimp [Try.f68, E68, ints]
  refine awp_loop_g [(10, 6829, 1, 3)] rfl (by simp) [15, 16, 17, 20, 21, 22, 23, 24, 25, 26, 27, 28, 29, 10, 18, 19, 12] (fun k : Fin (S + 1) => [(12, (true, .int .i64 (k.1 : Nat))), (10, (true, .bsl 6829 0 (memTo set k.1).length))])
    (fun k => hps [(6829, { base := 0, blks := [{ z := 1, els := (natI (memTo set k.1)).map ri, ty := 3 }] })] noH) (fun k => S - k.1) ⟨0, by omega⟩ ?_ (HLe.of_eq (by simp [memTo, natI])) ?_
  · simp [okAll, okv, memTo]
  rintro ⟨k, hk⟩
  simp only
  by_cases hk1 : k < S
  · have h1 := bit_shr set k (by omega)
    have hle : sr set k ≤ set := by unfold sr; rw [Nat.shiftRight_eq_div_pow]; exact Nat.div_le_self _ _
    have h2 := bit_and (a := sr set k) (b := 1) (by omega) (by decide)
    simp only [Int.natCast_one] at h2
    have hml := memTo_len set k
    have w1 : IntKind.wrap .i64 ((k : Int) + 1) = (k + 1 : Nat) := wrap_id (by omega) (by omega)
    have wu : IntKind.wrap .u64 (k : Int) = k := wrap_u (by omega) (by omega)
    have hb := bit_one set k
    have hb8 : ((memTo set k).length + 1) * 8 ≤ 140737488355328 := by omega
    by_cases ht : set.testBit k = true
    · rw [if_pos ht] at hb
      rw [hb] at h2
      have hs2 := memTo_succ set k
      rw [if_pos ht] at hs2
      simp -dsimp [h1, h2, hk1]
      repeat' (first | omega | (simp -dsimp [E68, ri, cellp, ints, h1, h2, hk1, w1, wu, hb8]) | (refine Also.intro ?_ fun _ => ?_) | (refine Hold.intro fun _ => ?_) | (refine And.intro ?_ ?_))
      refine ⟨⟨k + 1, by omega⟩, tle_chain rfl ?_, HLe.of_eq (by simp [hs2, natI, ri]), by simp only; omega⟩
      simp [okAll, okv, hs2]
    · have ht' : set.testBit k = false := by simpa using ht
      rw [if_neg ht] at hb
      rw [hb] at h2
      have hs2 := memTo_succ set k
      rw [if_neg ht, List.append_nil] at hs2
      simp -dsimp [h1, h2, hk1]
      repeat' (first | omega | (simp -dsimp [E68, ri, cellp, ints, h1, h2, hk1, w1, wu]) | (refine Also.intro ?_ fun _ => ?_) | (refine Hold.intro fun _ => ?_) | (refine And.intro ?_ ?_))
      refine ⟨⟨k + 1, by omega⟩, tle_chain rfl ?_, HLe.of_eq (by simp [hs2]), by simp only; omega⟩
      simp [okAll, okv, hs2]
  have hkS : k = S := by omega
  subst hkS
  simp -dsimp
  refine awp_loop_g [(11, 6867, 1, 3)] rfl (by simp) [30, 31, 32, 14, 35, 36, 37, 38, 41, 42, 43, 44, 45, 46, 47, 48, 49, 50, 51, 52, 53, 54, 55, 56, 57, 58, 59, 60, 61, 62, 63, 64, 65, 66, 67, 11, 39, 40, 33, 34, 13] (fun g : Fin (G + 1) => [(13, (true, .int .i64 (g.1 : Nat))), (11, (true, .bsl 6867 0 (wornX 0 set cells g.1).length))])
    (fun g => hps [(6867, { base := 0, blks := [{ z := 1, els := (natI (wornX 0 set cells g.1)).map ri, ty := 3 }] }), (6829, { base := 0, blks := [{ z := 1, els := (natI (memTo set k)).map ri, ty := 3 }] })] noH) (fun g => G - g.1) ⟨0, by omega⟩ ?_ (HLe.of_eq (by simp [wornX, natI])) ?_
  · simp [okAll, okv, wornX]
  rintro ⟨g, hg⟩
  simp only
  by_cases hg1 : g < G
  case neg =>
    have hgG : g = G := by omega
    subst hgG
    simp -dsimp
    repeat' (first | omega | (simp -dsimp [E68, ri, cellp, ints, hk]) | (refine Also.intro ?_ fun _ => ?_) | (refine Hold.intro fun _ => ?_) | (refine And.intro ?_ ?_))
  have wg1 : IntKind.wrap .i64 ((g : Int) + 1) = (g + 1 : Nat) := wrap_id (by omega) (by omega)
  simp -dsimp [hg1]
  refine awp_loop [35, 36, 37, 38, 41, 42, 43, 44, 45, 46, 47, 48, 49, 50, 51, 52, 53, 54, 55, 56, 57, 58, 59, 60, 61, 62, 63, 64, 65, 66, 67, 11, 39, 40, 14] (fun i : Fin (cells.length + 1) => [(14, (true, .int .i64 (i.1 : Nat))), (11, (true, .bsl 6867 0 (wlTo set cells g i.1).length))])
    (fun i => hps [(6867, { base := 0, blks := [{ z := 1, els := (natI (wlTo set cells g i.1)).map ri, ty := 3 }] }), (6829, { base := 0, blks := [{ z := 1, els := (natI (memTo set k)).map ri, ty := 3 }] })] noH) (fun i => cells.length - i.1) ⟨0, by omega⟩ ?_ (HLe.of_eq (by simp [wlTo_zero])) ?_
  · simp [okAll, okv, wlTo_zero]
  rintro ⟨i, hi⟩
  simp only
  by_cases hi1 : i < cells.length
  case neg =>
    have hie : i = cells.length := by omega
    subst hie
    have e := wlTo_all set cells g
    simp -dsimp [e]
    repeat' (first | omega | (simp -dsimp [E68, ri, cellp, ints, wg1, e]) | (refine Also.intro ?_ fun _ => ?_) | (refine Hold.intro fun _ => ?_) | (refine And.intro ?_ ?_))
    refine ⟨⟨g + 1, by omega⟩, tle_kept (kept_upds rfl (kept_forget rfl (kept_upds rfl kept_base))) ?_, HLe.refl _, by simp only; omega⟩
    simp [okAll, okv]
  have wi1 : IntKind.wrap .i64 ((i : Int) + 1) = (i + 1 : Nat) := wrap_id (by omega) (by omega)
  have hsame := wlTo_same (set := set) (cells := cells) (g := g) hi1
  have hnew := wlTo_new (set := set) (cells := cells) (g := g) hi1
  have hcell := ok_cell hv cells[i] (List.getElem_mem hi1)
  have hwl := wlTo_len set cells g i
  have hmw := mem_wlTo (set := set) (cells := cells) (g := g) (i := i)
  have hmll := memTo_len set k
  have hb8 : ((wlTo set cells g i).length + 1) * 8 ≤ 140737488355328 := by omega
  have p1 : (wlTo set cells g i).length ≤ 9223372036854775807 := by omega
  have p2 : (memTo set k).length ≤ 9223372036854775807 := by omega
  generalize hc : cells[i] = c at *
  obtain ⟨a, b⟩ := c
  simp only at hcell
  have hma := mem_memTo (set := set) (s := k) (a := a) hcell.1 hcell.2.1
  by_cases hb : b = (g : Int)
  case neg =>
    have e := hsame (.inr (by simp [cellHit, hb]))
    simp -dsimp [hi1, hc, rowC]
    repeat' (first | omega | (simp -dsimp [E68, ri, cellp, ints, hi1, hc, rowC, hb, wi1]) | (refine Also.intro ?_ fun _ => ?_) | (refine Hold.intro fun _ => ?_) | (refine And.intro ?_ ?_))
    refine ⟨⟨i + 1, by omega⟩, tle_chain rfl ?_, HLe.of_eq (by simp [e]), by simp only; omega⟩
    simp [okAll, okv, e]
  subst hb
  by_cases ht : set.testBit a.toNat = true
  · have e := hsame (.inr (by simp [cellHit, ht]))
    rw [ht] at hma
    have hma : a ∈ natI (memTo set k) := hma.2 rfl
    simp -dsimp [hi1, hc, rowC]
    repeat' (first | omega | (simp -dsimp [E68, ri, cellp, ints, hi1, hc, rowC, wi1, hma, p1, p2]) | (refine Also.intro ?_ fun _ => ?_) | (refine Hold.intro fun _ => ?_) | (refine And.intro ?_ ?_))
    refine ⟨⟨i + 1, by omega⟩, tle_chain rfl ?_, HLe.of_eq (by simp [e]), by simp only; omega⟩
    simp [okAll, okv, e]
  have hma : ¬ a ∈ natI (memTo set k) := fun h => ht (hma.1 h)
  by_cases hp : (cells.take i).any (cellHit set g) = true
  · have e := hsame (.inl hp)
    have hmw := hmw.2 hp
    simp -dsimp [hi1, hc, rowC]
    repeat' (first | omega | (simp -dsimp [E68, ri, cellp, ints, hi1, hc, rowC, wi1, hma, hmw, p1, p2]) | (refine Also.intro ?_ fun _ => ?_) | (refine Hold.intro fun _ => ?_) | (refine And.intro ?_ ?_))
    refine ⟨⟨i + 1, by omega⟩, tle_chain rfl ?_, HLe.of_eq (by simp [e]), by simp only; omega⟩
    simp [okAll, okv, e]
  · have e := hnew (by simpa using hp) (by simp [cellHit, ht])
    have hmw : ¬ (g : Int) ∈ natI (wlTo set cells g i) := fun h => hp (hmw.1 h)
    simp -dsimp [hi1, hc, rowC]
    repeat' (first | omega | (simp -dsimp [E68, ri, cellp, ints, hi1, hc, rowC, wi1, hma, hmw, hb8, p1, p2]) | (refine Also.intro ?_ fun _ => ?_) | (refine Hold.intro fun _ => ?_) | (refine And.intro ?_ ?_))
    refine ⟨⟨i + 1, by omega⟩, tle_chain rfl ?_, HLe.of_eq (by simp [e, natI, ri]), by simp only; omega⟩
    simp [okAll, okv, e]
theorem ok68 : FnOK Try.prog 68 (.pure expnS) := pure_fn (E := E68) rfl (.cons ok82 .nil) (ok := []) (fn := Try.f68) (by kernel_rfl) (by kernel_rfl) (by kernel_rfl) (by kernel_rfl) rfl (fun _ _ => by simp) b68
end Go.Sx

