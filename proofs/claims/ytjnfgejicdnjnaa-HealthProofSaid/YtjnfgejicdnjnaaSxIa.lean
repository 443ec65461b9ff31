/- HealthExplains: the reference's Explain. No conditions. -/
import Derived.Test.YtjnfgejicdnjnaaSxHz
set_option linter.unusedSimpArgs false
set_option linter.unusedVariables false
set_option maxRecDepth 100000
set_option maxHeartbeats 1000000
namespace Go.Sx
open Go.Proofs

theorem minX_next (b : List Nat) {k : Nat} (hk : 1 ≤ k) : minX (expTo b (k + 1)) = if better (exS b k) (minX (expTo b k)) then exS b k else minX (expTo b k) := by
  obtain ⟨j, rfl⟩ : ∃ j, k = j + 1 := ⟨k - 1, by omega⟩
  exact minX_step b j
theorem better_iff (x1 x2 y1 y2 : List Int) : better (x1, x2) (y1, y2) = true ↔ (x1.length + x2.length < y1.length + y2.length ∨ (x1.length + x2.length = y1.length + y2.length ∧ (x1.length < y1.length ∨ (x1.length = y1.length ∧ cmpL x1 y1 < 0)))) := by
  simp only [better, Bool.or_eq_true, Bool.and_eq_true, decide_eq_true_eq]
  simp only [szX, cmpX]
  split <;> (constructor <;> (intro h; omega))
noncomputable abbrev E30 : Env := { P := Try.prog, fn := tbl [(43, .pure chkCS), (68, .pure expnS), (69, .pure beforeS)], own := [], key := 3000, nt := 85 }
theorem b30 : PureBody E30 [] Try.f30 ExplainS := by
  refine pb ?_
  rintro ⟨se, ge, cells⟩ p1
  simp only at p1
  by_cases hv : okCells se ge cells = true
  case neg =>
    have hv' : okCells se ge cells = false := by simpa using hv
    simp -dsimp [Try.f30, E30, hv', explR]
    repeat' (first | omega | (simp -dsimp [E30, ri, cellp, ints, hv', p1, explR]) | (refine Also.intro ?_ fun _ => ?_) | (refine Hold.intro fun _ => ?_) | (refine And.intro ?_ ?_))
  obtain ⟨q1, q2, q3, q4⟩ := okCells_facts hv
  obtain ⟨S, rfl⟩ := Int.eq_ofNat_of_zero_le (show 0 ≤ se by omega)
  have hS : S ≤ 8 := by omega
  have hpos : 0 < 2 ^ S := Nat.two_pow_pos S
  have hres : explR S ge cells = ((minX (expTo (bysN S cells) (2 ^ S))).1, (minX (expTo (bysN S cells) (2 ^ S))).2, 0) := by
    rw [explR, if_pos hv, Int.toNat_natCast]; rfl
  rw [hres]
  have h2n : 2 ^ S ≤ 256 := Nat.le_trans (Nat.pow_le_pow_right (by decide) hS) (by decide)
  have h1 : shlV .i64 1 (S : Int) = ((2 ^ S : Nat) : Int) := bit_shl S (by omega)
  have wu : IntKind.wrap .u64 (S : Int) = S := wrap_u (by omega) (by omega)
  have hf := minX_first (bysN S cells)
  have hlen : ∀ k, (exS (bysN S cells) k).1.length ≤ 62 ∧ (exS (bysN S cells) k).2.length ≤ 62 := fun k => by
    simp only [exS, natI_length]
    exact ⟨memN_len _, memN_len _⟩
  simp -dsimp [Try.f30, E30, hv, ints]
  repeat' (first | omega | (simp -dsimp [E30, ri, cellp, ints, hv, p1, hpos]) | (refine Also.intro ?_ fun _ => ?_) | (refine Hold.intro fun _ => ?_) | (refine And.intro ?_ ?_))
  refine awp_loop [30, 31, 32, 33, 34, 38, 39, 40, 41, 42, 37, 43, 44, 13, 14, 45, 46, 47, 48, 49, 50, 51, 52, 53, 54, 55, 15, 56, 57, 58, 59, 60, 61, 62, 63, 64, 65, 66, 67, 68, 69, 70, 71, 72, 73, 74, 75, 76, 77, 78, 79, 80, 81, 10, 82, 11, 35, 36, 12] (fun k : { k : Nat // 1 ≤ k ∧ k ≤ 2 ^ S } => [(12, (true, .int .i64 (k.1 : Nat))), (10, (true, ints (minX (expTo (bysN S cells) k.1)).1)), (11, (true, ints (minX (expTo (bysN S cells) k.1)).2))])
    (fun k => noH) (fun k => 2 ^ S - k.1) ⟨1, by omega, hpos⟩ ?_ (HLe.refl _) ?_
  · simp [okAll, okv, hf, ints]
  rintro ⟨k, hk0, hk⟩
  simp only
  by_cases hk1 : k < 2 ^ S
  case neg =>
    have hke : k = 2 ^ S := by omega
    have hki : ¬ (k : Int) < ((2 ^ S : Nat) : Int) := by omega
    subst hke
    simp -dsimp [wu, h1, hki]
    repeat' (first | omega | (simp -dsimp [E30, ri, cellp, ints, hki]) | (refine Also.intro ?_ fun _ => ?_) | (refine Hold.intro fun _ => ?_) | (refine And.intro ?_ ?_))
  have hki : (k : Int) < ((2 ^ S : Nat) : Int) := by omega
  have w1 : IntKind.wrap .i64 ((k : Int) + 1) = (k + 1 : Nat) := wrap_id (by omega) (by omega)
  have hst := minX_next (bysN S cells) hk0
  have hm := expTo_mem (bysN S cells) k _ (minX_mem (by have := expTo_pos (bysN S cells) (k - 1); rwa [show k - 1 + 1 = k by omega] at this))
  have hx := hlen k
  generalize hN : 2 ^ S = N at *
  generalize minX (expTo (bysN S cells) k) = m at *
  generalize hxe : exS (bysN S cells) k = x at *
  obtain ⟨x1, x2⟩ := x
  obtain ⟨y1, y2⟩ := m
  simp only at hm hx
  obtain ⟨hm1, hm2⟩ := hm
  obtain ⟨hx1, hx2⟩ := hx
  have wa : IntKind.wrap .i64 ((x1.length : Int) + x2.length) = (x1.length : Int) + x2.length := wrap_id (by omega) (by omega)
  have wb : IntKind.wrap .i64 ((x1.length : Int) + x2.length - y1.length) = (x1.length : Int) + x2.length - y1.length := wrap_id (by omega) (by omega)
  have wc : IntKind.wrap .i64 ((x1.length : Int) + x2.length - y1.length - y2.length) = (x1.length : Int) + x2.length - y1.length - y2.length := wrap_id (by omega) (by omega)
  have hk9 : (k : Int).toNat = k := Int.toNat_natCast _
  by_cases c1 : (x1.length : Int) + x2.length - y1.length - y2.length < 0
  · rw [if_pos (by rw [better_iff]; omega)] at hst
    simp -dsimp [wu, h1, hki]
    repeat' (first | omega | (simp -dsimp [E30, ri, cellp, ints, wu, h1, hki, hv, hN, p1, hk1, hxe, wa, wb, wc, c1, w1]) | (refine Also.intro ?_ fun _ => ?_) | (refine Hold.intro fun _ => ?_) | (refine And.intro ?_ ?_))
    refine ⟨k + 1, tle_chain rfl ?_, HLe.refl _, ⟨by omega, by omega⟩, by omega⟩
    simp [okAll, okv, ints, hst]
  by_cases c2 : (x1.length : Int) + x2.length - y1.length - y2.length = 0
  case neg =>
    rw [if_neg (by rw [better_iff]; omega)] at hst
    simp -dsimp [wu, h1, hki]
    repeat' (first | omega | (simp -dsimp [E30, ri, cellp, ints, wu, h1, hki, hv, hN, p1, hk1, hxe, wa, wb, wc, c1, c2, w1]) | (refine Also.intro ?_ fun _ => ?_) | (refine Hold.intro fun _ => ?_) | (refine And.intro ?_ ?_))
    refine ⟨k + 1, tle_chain rfl ?_, HLe.refl _, ⟨by omega, by omega⟩, by omega⟩
    simp [okAll, okv, ints, hst]
  by_cases c3 : x1.length < y1.length
  · rw [if_pos (by rw [better_iff]; omega)] at hst
    have c3' : (x1.length : Int) < y1.length := by omega
    simp -dsimp [wu, h1, hki]
    repeat' (first | omega | (simp -dsimp [E30, ri, cellp, ints, wu, h1, hki, hv, hN, p1, hk1, hxe, wa, wb, wc, c2, c3, c3', w1]) | (refine Also.intro ?_ fun _ => ?_) | (refine Hold.intro fun _ => ?_) | (refine And.intro ?_ ?_))
    refine ⟨k + 1, tle_chain rfl ?_, HLe.refl _, ⟨by omega, by omega⟩, by omega⟩
    simp [okAll, okv, ints, hst]
  by_cases c4 : x1.length = y1.length
  case neg =>
    rw [if_neg (by rw [better_iff]; omega)] at hst
    have c4' : ¬ (x1.length : Int) = y1.length := by omega
    simp -dsimp [wu, h1, hki]
    repeat' (first | omega | (simp -dsimp [E30, ri, cellp, ints, wu, h1, hki, hv, hN, p1, hk1, hxe, wa, wb, wc, c2, c3, c4, c4', w1]) | (refine Also.intro ?_ fun _ => ?_) | (refine Hold.intro fun _ => ?_) | (refine And.intro ?_ ?_))
    refine ⟨k + 1, tle_chain rfl ?_, HLe.refl _, ⟨by omega, by omega⟩, by omega⟩
    simp [okAll, okv, ints, hst]
  have c4' : ((x1.length : Int) = y1.length) = True := eq_true (by omega)
  have c4'' : (x1.length = y1.length) = True := eq_true c4
  have c6 : x1.length ≤ 1000000 := by omega
  by_cases c5 : cmpL x1 y1 < 0
  · rw [if_pos (by rw [better_iff]; omega)] at hst
    simp -dsimp [wu, h1, hki]
    repeat' (first | omega | (simp -dsimp [E30, ri, cellp, ints, wu, h1, hki, hv, hN, p1, hk1, hxe, wa, wb, wc, c2, c3, c4', c4'', c5, c6, w1]) | (refine Also.intro ?_ fun _ => ?_) | (refine Hold.intro fun _ => ?_) | (refine And.intro ?_ ?_))
    refine ⟨k + 1, tle_chain rfl ?_, HLe.refl _, ⟨by omega, by omega⟩, by omega⟩
    simp [okAll, okv, ints, hst]
  · rw [if_neg (by rw [better_iff]; omega)] at hst
    simp -dsimp [wu, h1, hki]
    repeat' (first | omega | (simp -dsimp [E30, ri, cellp, ints, wu, h1, hki, hv, hN, p1, hk1, hxe, wa, wb, wc, c2, c3, c4', c4'', c5, c6, w1]) | (refine Also.intro ?_ fun _ => ?_) | (refine Hold.intro fun _ => ?_) | (refine And.intro ?_ ?_))
    refine ⟨k + 1, tle_chain rfl ?_, HLe.refl _, ⟨by omega, by omega⟩, by omega⟩
    simp [okAll, okv, ints, hst]
theorem ok30 : FnOK Try.prog 30 (.pure ExplainS) := pure_fn (E := E30) rfl (.cons ok43 (.cons ok68 (.cons ok69 .nil))) (ok := []) (fn := Try.f30) (by kernel_rfl) (by kernel_rfl) (by kernel_rfl) (by kernel_rfl) rfl (fun _ _ => by simp) b30
end Go.Sx

