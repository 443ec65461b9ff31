/- HealthExplains: contracts of the reference's and the program's functions. No conditions. -/
import Derived.Test.YtjnfgejicdnjnaaSxHx
set_option linter.unusedSimpArgs false
set_option linter.unusedVariables false
set_option maxRecDepth 100000
set_option maxHeartbeats 1000000
namespace Go.Sx
open Go.Proofs

theorem wrap_u {n : Int} (h0 : 0 ≤ n) (h1 : n ≤ 18446744073709551615) : IntKind.wrap .u64 n = n := by rw [IntKind.wrap_u64]; omega
abbrev hasS : PSpec := { dom := List Int × Int, enc := fun d => [ints d.1, .int .i64 d.2], dec := fun l => ((l.getD 0 .top).toInts, (l.getD 1 .top).toInt), pre := fun d => d.1.length ≤ 9223372036854775807, res := fun d => .bool (decide (d.2 ∈ d.1)) }
noncomputable abbrev E82 : Env := { P := Try.prog, fn := tbl [], own := [], key := 8200, nt := 18 }
theorem b82 : PureBody E82 [] Try.f82 hasS := by
  refine pb ?_
  rintro ⟨l, v⟩ hl
  simp only at hl
  simp -dsimp [Try.f82, E82, ints]
  refine awp_loop [6, 7, 8, 9, 12, 13, 14, 15, 16, 17, 4, 10, 11, 5] (fun k : { k : Nat // k ≤ l.length ∧ v ∉ l.take k } => [(5, (true, .int .i64 (k.1 : Nat)))]) (fun _ => noH) (fun k => l.length - k.1) ⟨0, by omega, by simp⟩ ?_ (HLe.refl _) ?_
  · simp [okAll, okv]
  rintro ⟨k, hk, hc⟩
  simp only
  by_cases hk1 : k < l.length
  case neg =>
    have hf : v ∉ l := by rw [List.take_of_length_le (by omega)] at hc; exact hc
    simp -dsimp [hk1]
    repeat' (first | omega | (simp -dsimp [E82, ri, cellp, ints, hk1, hf]) | (refine Also.intro ?_ fun _ => ?_) | (refine Hold.intro fun _ => ?_) | (refine And.intro ?_ ?_))
  have w1 : IntKind.wrap .i64 ((k : Int) + 1) = (k + 1 : Nat) := wrap_id (by omega) (by omega)
  by_cases hx : l[k] = v
  · have ht : v ∈ l := by rw [← hx]; exact List.getElem_mem _
    simp -dsimp [hk1, ri]
    repeat' (first | omega | (simp -dsimp [E82, ri, cellp, ints, hk1, hx, ht]) | (refine Also.intro ?_ fun _ => ?_) | (refine Hold.intro fun _ => ?_) | (refine And.intro ?_ ?_))
  · simp -dsimp [hk1, ri]
    repeat' (first | omega | (simp -dsimp [E82, ri, cellp, ints, hk1, hx, w1]) | (refine Also.intro ?_ fun _ => ?_) | (refine Hold.intro fun _ => ?_) | (refine And.intro ?_ ?_))
    refine ⟨k + 1, tle_chain rfl ?_, HLe.refl _, ⟨hk1, ?_⟩, by omega⟩
    · simp [okAll, okv]
    · rw [List.take_succ_eq_append_getElem hk1]
      intro hm
      rcases List.mem_append.1 hm with h | h
      · exact hc h
      · exact hx (List.mem_singleton.1 h).symm
theorem ok82 : FnOK Try.prog 82 (.pure hasS) := pure_fn (E := E82) rfl LOK.nil (ok := []) (fn := Try.f82) (by kernel_rfl) (by kernel_rfl) (by kernel_rfl) (by kernel_rfl) rfl (fun _ _ => by simp) b82
abbrev chkCS : PSpec := { newBoxS with res := fun d => .int .i64 (if okCells d.1 d.2.1 d.2.2 then 0 else 1) }
noncomputable abbrev E43 : Env := { P := Try.prog, fn := tbl [(57, .pure withinS)], own := [], key := 4300, nt := 76 }
theorem b43 : PureBody E43 [] Try.f43 chkCS := by
  refine pb ?_
  rintro ⟨se, ge, cells⟩ p1
  simp only at p1
  by_cases q1 : withinB se 1 8 = true
  case neg =>
    have q1' : withinB se 1 8 = false := by simpa using q1
    simp -dsimp [Try.f43, E43, q1', okCells]
    repeat' (first | omega | (simp -dsimp [E43, ri, cellp, ints, q1', okCells]) | (refine Also.intro ?_ fun _ => ?_) | (refine Hold.intro fun _ => ?_) | (refine And.intro ?_ ?_))
  by_cases q2 : withinB ge 1 12 = true
  case neg =>
    have q2' : withinB ge 1 12 = false := by simpa using q2
    simp -dsimp [Try.f43, E43, q1, q2', okCells]
    repeat' (first | omega | (simp -dsimp [E43, ri, cellp, ints, q1, q2', okCells]) | (refine Also.intro ?_ fun _ => ?_) | (refine Hold.intro fun _ => ?_) | (refine And.intro ?_ ?_))
  have q1' : 1 ≤ se ∧ se ≤ 8 := by simpa [withinB] using q1
  have q2' : 1 ≤ ge ∧ ge ≤ 12 := by simpa [withinB] using q2
  have ws : IntKind.wrap .i64 (se - 1) = se - 1 := wrap_id (by omega) (by omega)
  have wg : IntKind.wrap .i64 (ge - 1) = ge - 1 := wrap_id (by omega) (by omega)
  simp -dsimp [Try.f43, E43, q1, q2]
  refine awp_loop [17, 18, 19, 20, 23, 24, 25, 26, 8, 27, 28, 29, 30, 31, 32, 33, 34, 35, 36, 37, 38, 39, 40, 6, 41, 42, 43, 44, 45, 46, 47, 48, 49, 50, 51, 52, 53, 54, 55, 56, 57, 58, 59, 60, 61, 62, 63, 64, 65, 66, 67, 68, 69, 70, 71, 72, 73, 74, 75, 21, 22, 7] (fun k : { k : Nat // k ≤ cells.length ∧ okTo se ge cells k = true } => [(7, (true, .int .i64 (k.1 : Nat)))])
    (fun k => hps [(4308, { base := k.1, blks := [] })] noH) (fun k => cells.length - k.1) ⟨0, by omega, rfl⟩ ?_ (HLe.forget rfl (by intro s; simp [hnext, hps])) ?_
  · simp [okAll, okv]
  rintro ⟨k, hk, hok⟩
  simp only
  by_cases hk1 : k < cells.length
  case neg =>
    have hke : k = cells.length := by omega
    subst hke
    have hokc : okCells se ge cells = true := by simp [okCells, q1, q2, hok]
    simp -dsimp [hokc]
    repeat' (first | omega | (simp -dsimp [E43, ri, cellp, ints, hokc]) | (refine Also.intro ?_ fun _ => ?_) | (refine Hold.intro fun _ => ?_) | (refine And.intro ?_ ?_))
  have hs := okTo_succ se ge cells k
  have eG : cells.getD k (0, 0) = cells[k] := by simp [List.getD, List.getElem?_eq_getElem hk1]
  have w1 : IntKind.wrap .i64 ((k : Int) + 1) = (k + 1 : Nat) := wrap_id (by omega) (by omega)
  have hfail : okAt se ge cells k = false → okCells se ge cells = false := fun h => by simp [okCells, okTo_fail h hk1]
  have hat : okAt se ge cells k = (withinB (cells[k]).1 0 (se - 1) && withinB (cells[k]).2 0 (ge - 1) && (k == 0 || decide (cmpL [(cells.getD (k - 1) (0, 0)).1, (cells.getD (k - 1) (0, 0)).2] [(cells[k]).1, (cells[k]).2] < 0))) := by
    rw [okAt, eG]
  generalize hc : cells[k] = c at *
  obtain ⟨a, b⟩ := c
  simp only at hat
  by_cases r1 : withinB a 0 (se - 1) = true
  case neg =>
    have r1' : withinB a 0 (se - 1) = false := by simpa using r1
    have hf := hfail (by rw [hat, r1']; rfl)
    simp -dsimp [hk1, hc, rowC]
    repeat' (first | omega | (simp -dsimp [E43, ri, cellp, ints, hk1, hc, rowC, ws, r1', hf]) | (refine Also.intro ?_ fun _ => ?_) | (refine Hold.intro fun _ => ?_) | (refine And.intro ?_ ?_))
  by_cases r2 : withinB b 0 (ge - 1) = true
  case neg =>
    have r2' : withinB b 0 (ge - 1) = false := by simpa using r2
    have hf := hfail (by rw [hat, r1, r2']; rfl)
    simp -dsimp [hk1, hc, rowC]
    repeat' (first | omega | (simp -dsimp [E43, ri, cellp, ints, hk1, hc, rowC, ws, wg, r1, r2', hf]) | (refine Also.intro ?_ fun _ => ?_) | (refine Hold.intro fun _ => ?_) | (refine And.intro ?_ ?_))
  rw [r1, r2, Bool.true_and, Bool.true_and] at hat
  by_cases hk0 : k = 0
  · subst hk0
    simp at hat
    have wone : IntKind.wrap .i64 1 = 1 := wrap_id (by omega) (by omega)
    simp -dsimp [hk1, hc, rowC]
    repeat' (first | omega | (simp -dsimp [E43, ri, cellp, ints, hk1, hc, rowC, ws, wg, r1, r2, wone]) | (refine Also.intro ?_ fun _ => ?_) | (refine Hold.intro fun _ => ?_) | (refine And.intro ?_ ?_))
    simp only [Nat.zero_add] at hs
    refine ⟨1, tle_chain rfl ?_, (by (try simp -dsimp only [hpush_noH, hpush_hps, hps_over]); refine hle_hps ?_; simp -dsimp [allK, ]; repeat' (first | (refine And.intro ?_ ?_) | (refine sLe.same ?_ ?_ <;> (simp; done)) | (refine sLe.clear ?_ ?_ <;> (simp; done)) | (refine sLe.drop 1 ?_ ?_ ?_ <;> (simp; done)))), ⟨hk1, by rw [hs, hok, hat]; rfl⟩, by omega⟩
    simp [okAll, okv]
  have hk2 : k - 1 < cells.length := by omega
  have hkp : 0 < k := by omega
  have wk : IntKind.wrap .i64 ((k : Int) - 1) = (k - 1 : Nat) := by rw [wrap_id (by omega) (by omega)]; omega
  have eP : cells.getD (k - 1) (0, 0) = cells[k - 1] := by simp [List.getD, List.getElem?_eq_getElem hk2]
  rw [eP] at hat
  generalize hpc : cells[k - 1] = p at *
  obtain ⟨pa, pb⟩ := p
  simp only [show (k == 0) = false by simpa using hk0, Bool.false_or, cmp_pair] at hat
  by_cases h1 : a < pa
  · have hf := hfail (by rw [hat, decide_eq_false_iff_not]; omega)
    simp -dsimp [hk1, hc, hpc, rowC]
    repeat' (first | omega | (simp -dsimp [E43, ri, cellp, ints, hk1, hkp, hc, hpc, hk2, rowC, ws, wg, r1, r2, w1, wk, h1, hf]) | (refine Also.intro ?_ fun _ => ?_) | (refine Hold.intro fun _ => ?_) | (refine And.intro ?_ ?_))
  by_cases h2 : a = pa
  · subst h2
    by_cases h3 : b ≤ pb
    · have hf := hfail (by rw [hat, decide_eq_false_iff_not]; omega)
      simp -dsimp [hk1, hc, hpc, rowC]
      repeat' (first | omega | (simp -dsimp [E43, ri, cellp, ints, hk1, hkp, hc, hpc, hk2, rowC, ws, wg, r1, r2, w1, wk, h3, hf]) | (refine Also.intro ?_ fun _ => ?_) | (refine Hold.intro fun _ => ?_) | (refine And.intro ?_ ?_))
    · have ht : okAt se ge cells k = true := by rw [hat, decide_eq_true_eq]; omega
      simp -dsimp [hk1, hc, hpc, rowC]
      repeat' (first | omega | (simp -dsimp [E43, ri, cellp, ints, hk1, hkp, hc, hpc, hk2, rowC, ws, wg, r1, r2, w1, wk, h3]) | (refine Also.intro ?_ fun _ => ?_) | (refine Hold.intro fun _ => ?_) | (refine And.intro ?_ ?_))
      refine ⟨k + 1, tle_chain rfl ?_, (by (try simp -dsimp only [hpush_noH, hpush_hps, hps_over]); refine hle_hps ?_; simp -dsimp [allK, ]; repeat' (first | (refine And.intro ?_ ?_) | (refine sLe.same ?_ ?_ <;> (simp; done)) | (refine sLe.clear ?_ ?_ <;> (simp; done)) | (refine sLe.drop 1 ?_ ?_ ?_ <;> (simp; done)))), ⟨hk1, by rw [hs, hok, ht]; rfl⟩, by omega⟩
      simp [okAll, okv]
  · have ht : okAt se ge cells k = true := by rw [hat, decide_eq_true_eq]; omega
    simp -dsimp [hk1, hc, hpc, rowC]
    repeat' (first | omega | (simp -dsimp [E43, ri, cellp, ints, hk1, hkp, hc, hpc, hk2, rowC, ws, wg, r1, r2, w1, wk, h1, h2]) | (refine Also.intro ?_ fun _ => ?_) | (refine Hold.intro fun _ => ?_) | (refine And.intro ?_ ?_))
    refine ⟨k + 1, tle_chain rfl ?_, (by (try simp -dsimp only [hpush_noH, hpush_hps, hps_over]); refine hle_hps ?_; simp -dsimp [allK, ]; repeat' (first | (refine And.intro ?_ ?_) | (refine sLe.same ?_ ?_ <;> (simp; done)) | (refine sLe.clear ?_ ?_ <;> (simp; done)) | (refine sLe.drop 1 ?_ ?_ ?_ <;> (simp; done)))), ⟨hk1, by rw [hs, hok, ht]; rfl⟩, by omega⟩
    simp [okAll, okv]
theorem ok43 : FnOK Try.prog 43 (.pure chkCS) := pure_fn (E := E43) rfl (.cons ok57 .nil) (ok := []) (fn := Try.f43) (by kernel_rfl) (by kernel_rfl) (by kernel_rfl) (by kernel_rfl) rfl (fun _ _ => by simp) b43
abbrev beforeS : PSpec := { cmpLS with pre := fun d => d.1.length = d.2.length ∧ d.1.length ≤ 1000000, res := fun d => .bool (decide (cmpL d.1 d.2 < 0)) }
noncomputable abbrev E69 : Env := { P := Try.prog, fn := tbl [], own := [], key := 6900, nt := 30 }
theorem b69 : PureBody E69 [] Try.f69 beforeS := by
  refine pb ?_
  rintro ⟨a, b⟩ ⟨hl, h2⟩
  simp only at hl h2
  simp -dsimp [Try.f69, E69, ints]
  refine awp_loop [6, 7, 8, 9, 12, 13, 14, 15, 16, 17, 18, 19, 20, 21, 22, 23, 24, 25, 26, 27, 28, 29, 4, 10, 11, 5] (fun k : { k : Nat // k ≤ a.length ∧ cmpL (a.drop k) (b.drop k) = cmpL a b } => [(5, (true, .int .i64 (k.1 : Nat)))]) (fun _ => noH) (fun k => a.length - k.1) ⟨0, by omega, rfl⟩ ?_ (HLe.refl _) ?_
  · simp [okAll, okv]
  rintro ⟨k, hk, he⟩
  simp only
  by_cases hk1 : k < a.length
  case neg =>
    rw [List.drop_eq_nil_of_le (by omega), List.drop_eq_nil_of_le (by omega), cmpL] at he
    simp -dsimp [hk1]
    repeat' (first | omega | (simp -dsimp [E69, ri, cellp, ints, hk1, ← he]) | (refine Also.intro ?_ fun _ => ?_) | (refine Hold.intro fun _ => ?_) | (refine And.intro ?_ ?_))
  have hk2 : k < b.length := by omega
  have w1 : IntKind.wrap .i64 ((k : Int) + 1) = (k + 1 : Nat) := wrap_id (by omega) (by omega)
  rw [List.drop_eq_getElem_cons hk1, List.drop_eq_getElem_cons hk2, cmpL] at he
  by_cases hx : a[k] = b[k]
  · rw [if_neg (by simp [cmpZ, hx])] at he
    simp -dsimp [hk1, hk2, ri]
    repeat' (first | omega | (simp -dsimp [E69, ri, cellp, ints, hk1, hk2, hx, w1]) | (refine Also.intro ?_ fun _ => ?_) | (refine Hold.intro fun _ => ?_) | (refine And.intro ?_ ?_))
    refine ⟨k + 1, tle_chain rfl ?_, HLe.refl _, ⟨hk1, he⟩, by omega⟩
    simp [okAll, okv]
  · have hz : cmpZ a[k] b[k] ≠ 0 := by unfold cmpZ; split <;> (try split) <;> omega
    rw [if_pos hz] at he
    have hd : decide (a[k] < b[k]) = decide (cmpL a b < 0) := by
      rw [← he]
      unfold cmpZ
      by_cases h1 : a[k] < b[k]
      · simp [h1]
      · rw [if_neg h1]
        split <;> simp [h1]
    simp -dsimp [hk1, hk2, ri]
    repeat' (first | omega | (simp -dsimp [E69, ri, cellp, ints, hk1, hk2, hx, hd]) | (refine Also.intro ?_ fun _ => ?_) | (refine Hold.intro fun _ => ?_) | (refine And.intro ?_ ?_))
theorem ok69 : FnOK Try.prog 69 (.pure beforeS) := pure_fn (E := E69) rfl LOK.nil (ok := []) (fn := Try.f69) (by kernel_rfl) (by kernel_rfl) (by kernel_rfl) (by kernel_rfl) rfl (fun _ _ => by simp) b69
end Go.Sx

