/- A part of a proof; no conditions. -/
import Derived.Test.YtjnfgejicdnjnaaSxHl
set_option linter.unusedSimpArgs false
set_option linter.unusedVariables false
set_option maxRecDepth 100000
set_option maxHeartbeats 1000000
namespace Go.Sx
open Go.Proofs

/-! Alarm -/
theorem lowN_le {num den : Int} (h0 : 0 ≤ num) (h : 0 < den) : 0 ≤ lowN num den ∧ lowN num den ≤ num ∧ 0 ≤ lowD num den ∧ lowD num den ≤ den := by
  obtain ⟨f1, f2, f3⟩ := low_facts h0 h
  generalize lowN num den = x at *
  generalize lowD num den = y at *
  generalize (Int.gcd num den : Int) = g at *
  have hx : 0 ≤ x := Int.nonneg_of_mul_nonneg_left (by omega) f3
  have hy : 0 ≤ y := Int.nonneg_of_mul_nonneg_left (by omega) f3
  have h1 := Int.mul_le_mul_of_nonneg_left (show (1 : Int) ≤ g by omega) hx
  have h2 := Int.mul_le_mul_of_nonneg_left (show (1 : Int) ≤ g by omega) hy
  omega
abbrev fcmpS : PSpec := { dom := (Int × Int) × (Int × Int), enc := fun d => [.agg [.int .i64 d.1.1, .int .i64 d.1.2], .agg [.int .i64 d.2.1, .int .i64 d.2.2]], dec := fun l => ((((l.getD 0 .top).cs.getD 0 .top).toInt, ((l.getD 0 .top).cs.getD 1 .top).toInt), (((l.getD 1 .top).cs.getD 0 .top).toInt, ((l.getD 1 .top).cs.getD 1 .top).toInt)), pre := fun d => -3000000000 ≤ d.1.1 ∧ d.1.1 ≤ 3000000000 ∧ -3000000000 ≤ d.1.2 ∧ d.1.2 ≤ 3000000000 ∧ -3000000000 ≤ d.2.1 ∧ d.2.1 ≤ 3000000000 ∧ -3000000000 ≤ d.2.2 ∧ d.2.2 ≤ 3000000000, res := fun d => .int .i64 (cmpZ (d.1.1 * d.2.2) (d.2.1 * d.1.2)) }
theorem mul_abs {a b m n : Int} (h1 : -m ≤ a) (h2 : a ≤ m) (h3 : -n ≤ b) (h4 : b ≤ n) : -(m * n) ≤ a * b ∧ a * b ≤ m * n := by
  have hm : 0 ≤ m := by omega
  have hn : 0 ≤ n := by omega
  have e1 : a.natAbs ≤ m.toNat := by omega
  have e2 : b.natAbs ≤ n.toNat := by omega
  have h := Nat.mul_le_mul e1 e2
  rw [← Int.natAbs_mul] at h
  have e3 : ((m.toNat * n.toNat : Nat) : Int) = m * n := by rw [Int.natCast_mul, Int.toNat_of_nonneg hm, Int.toNat_of_nonneg hn]
  omega
noncomputable abbrev E59 : Env := { P := Try.prog, fn := tbl [(88, .pure cmpS)], own := [], key := 5900, nt := 16 }
theorem b59 : PureBody E59 [] Try.f59 fcmpS := by
  refine pb ?_
  rintro ⟨⟨a, b⟩, ⟨c, d⟩⟩ ⟨p1, p2, p3, p4, p5, p6, p7, p8⟩
  simp only at p1 p2 p3 p4 p5 p6 p7 p8
  have m1 := mul_abs p1 p2 p7 p8
  have m2 := mul_abs p5 p6 p3 p4
  have w1 : IntKind.wrap .i64 (a * d) = a * d := wrap_id (by omega) (by omega)
  have w2 : IntKind.wrap .i64 (c * b) = c * b := wrap_id (by omega) (by omega)
  simp -dsimp [Try.f59, E59, w1, w2]
theorem ok59 : FnOK Try.prog 59 (.pure fcmpS) := pure_fn (E := E59) rfl (.cons ok88 .nil) (ok := []) (fn := Try.f59) (by kernel_rfl) (by kernel_rfl) (by kernel_rfl) (by kernel_rfl) rfl (fun _ _ => by simp) b59
def idxP (p : Nat → Bool) (n : Nat) : Int := match (List.range n).find? p with | some i => i | none => -1
theorem idxP_at {p : Nat → Bool} {n k : Nat} (hk : k < n) (hp : p k = true) (h : ∀ j, j < k → p j = false) : idxP p n = k := by
  have : (List.range n).find? p = some k := by
    rw [List.find?_range_eq_some]
    exact ⟨hp, by simpa using hk, fun j hj => by simp [h j hj]⟩
  simp [idxP, this]
theorem idxP_none {p : Nat → Bool} {n : Nat} (h : ∀ j, j < n → p j = false) : idxP p n = -1 := by
  have : (List.range n).find? p = none := by
    rw [List.find?_range_eq_none]
    intro j hj; simp [h j hj]
  simp [idxP, this]
def win (l : List Int) (i : Nat) : List Int := (l.drop (i - 7)).take (i + 1 - (i - 7))
def hit (l : List Int) (lim num den : Int) (i : Nat) : Bool := decide (lim ≤ l.getD i 0) && decide ((chZ (win l i)).1 * den ≤ num * (chZ (win l i)).2)
def alOk (l : List Int) (lim num den : Int) : Bool := withinB lim (-1000000) 1000000 && withinB num 0 1000000 && withinB den 1 1000000 && allB l (-1000000) 1000000
def alZ (l : List Int) (lim num den : Int) : Int × Int := if 64 < l.length then (0, 2) else if alOk l lim num den then (idxP (hit l lim num den) l.length, 0) else (0, 1)
theorem win_len (l : List Int) {i : Nat} (h : i < l.length) : 1 ≤ (win l i).length ∧ (win l i).length ≤ 8 := by
  simp [win]; omega
theorem win_valid {l : List Int} (ha : allB l (-1000000) 1000000 = true) {i : Nat} (h : i < l.length) : validB (win l i) = true := by
  have := win_len l h
  simp only [validB, Bool.and_eq_true]
  refine ⟨by simp [withinB]; omega, ?_⟩
  simp only [allB, List.all_eq_true] at ha ⊢
  exact fun x hx => ha x (List.mem_of_mem_drop (List.mem_of_mem_take hx))
theorem fac8 {n : Nat} (h : n ≤ 8) : facN n ≤ 40320 := facN_le h
theorem win_slice (l : List Int) (i : Nat) : List.take (i + 1 - (i - 7)) (List.drop (i - 7) (l.map ri)) = (win l i).map ri := by
  rw [win, List.map_take, List.map_drop]
abbrev alS : PSpec := { dom := List Int × Int × Int × Int, enc := fun d => [ints d.1, .int .i64 d.2.1, .int .i64 d.2.2.1, .int .i64 d.2.2.2], dec := fun l => ((l.getD 0 .top).toInts, (l.getD 1 .top).toInt, (l.getD 2 .top).toInt, (l.getD 3 .top).toInt), pre := fun d => d.1.length ≤ 9223372036854775807, res := fun d => .tup [.int .i64 (alZ d.1 d.2.1 d.2.2.1 d.2.2.2).1, .int .i64 (alZ d.1 d.2.1 d.2.2.1 d.2.2.2).2] }
noncomputable abbrev E23 : Env := { P := Try.prog, fn := tbl [(56, .pure withinS), (58, .pure allS), (52, .pure chanceS), (59, .pure fcmpS)], own := [], key := 2300, nt := 61 }
theorem b23 : PureBody E23 [] Try.f23 alS := by
  refine pb ?_
  rintro ⟨l, lim, num, den⟩ hl
  by_cases h0 : 64 < l.length
  · have h0' : (64 : Int) < l.length := by omega
    simp -dsimp [Try.f23, E23, ints, h0', alZ, h0]
    repeat' (first | omega | (simp -dsimp [E23, ri, cellp, ints, h0', alZ, h0]) | (refine Also.intro ?_ fun _ => ?_) | (refine Hold.intro fun _ => ?_) | (refine And.intro ?_ ?_))
  have h0' : ¬ (64 : Int) < l.length := by omega
  by_cases q1 : allB l (-1000000) 1000000 = true
  case neg =>
    have q1' : allB l (-1000000) 1000000 = false := by simpa using q1
    simp -dsimp [Try.f23, E23, ints, h0', alZ, h0, q1', alOk]
    repeat' (first | omega | (simp -dsimp [E23, ri, cellp, ints, h0', alZ, h0, q1', alOk]) | (refine Also.intro ?_ fun _ => ?_) | (refine Hold.intro fun _ => ?_) | (refine And.intro ?_ ?_))
  by_cases q2 : withinB lim (-1000000) 1000000 = true
  case neg =>
    have q2' : withinB lim (-1000000) 1000000 = false := by simpa using q2
    simp -dsimp [Try.f23, E23, ints, h0', alZ, h0, q1, q2', alOk]
    repeat' (first | omega | (simp -dsimp [E23, ri, cellp, ints, h0', alZ, h0, q1, q2', alOk]) | (refine Also.intro ?_ fun _ => ?_) | (refine Hold.intro fun _ => ?_) | (refine And.intro ?_ ?_))
  by_cases q3 : withinB num 0 1000000 = true
  case neg =>
    have q3' : withinB num 0 1000000 = false := by simpa using q3
    simp -dsimp [Try.f23, E23, ints, h0', alZ, h0, q1, q2, q3', alOk]
    repeat' (first | omega | (simp -dsimp [E23, ri, cellp, ints, h0', alZ, h0, q1, q2, q3', alOk]) | (refine Also.intro ?_ fun _ => ?_) | (refine Hold.intro fun _ => ?_) | (refine And.intro ?_ ?_))
  by_cases q4 : withinB den 1 1000000 = true
  case neg =>
    have q4' : withinB den 1 1000000 = false := by simpa using q4
    simp -dsimp [Try.f23, E23, ints, h0', alZ, h0, q1, q2, q3, q4', alOk]
    repeat' (first | omega | (simp -dsimp [E23, ri, cellp, ints, h0', alZ, h0, q1, q2, q3, q4', alOk]) | (refine Also.intro ?_ fun _ => ?_) | (refine Hold.intro fun _ => ?_) | (refine And.intro ?_ ?_))
  have hok : alOk l lim num den = true := by simp [alOk, q1, q2, q3, q4]
  have r3 : 0 ≤ num ∧ num ≤ 1000000 := by simpa [withinB] using q3
  have r4 : 1 ≤ den ∧ den ≤ 1000000 := by simpa [withinB] using q4
  simp -dsimp [Try.f23, E23, ints, h0', q1, q2, q3, q4]
  repeat' (first | omega | (simp -dsimp [E23, ri, cellp, ints, h0', q1, q2, q3, q4]) | (refine Also.intro ?_ fun _ => ?_) | (refine Hold.intro fun _ => ?_) | (refine And.intro ?_ ?_))
  refine awp_loop [37, 38, 39, 40, 10, 11, 41, 42, 43, 44, 45, 46, 47, 48, 49, 50, 51, 52, 12, 53, 54, 55, 56, 57, 58, 59, 8, 9, 60, 36] (fun k : { k : Nat // k ≤ l.length ∧ ∀ j, j < k → hit l lim num den j = false } => [(36, (true, .int .i64 (k.1 : Nat)))]) (fun k => hps [(2312, { base := k.1, blks := [] })] noH) (fun k => l.length - k.1) ⟨0, by omega, fun _ h => by omega⟩ ?_ (HLe.of_eq (by funext s; simp [hps, noH])) ?_
  · simp [okAll, okv]
  rintro ⟨k, hk, he⟩
  simp only
  by_cases hk1 : k < l.length
  case neg =>
    have hke : k = l.length := by omega
    subst hke
    have := idxP_none he
    simp -dsimp [alZ, h0, hok, this]
    repeat' (first | omega | (simp -dsimp [E23, ri, cellp, ints, alZ, h0, hok, this]) | (refine Also.intro ?_ fun _ => ?_) | (refine Hold.intro fun _ => ?_) | (refine And.intro ?_ ?_))
  have w1 : IntKind.wrap .i64 ((k : Int) + 1) = (k + 1 : Nat) := wrap_id (by omega) (by omega)
  have w2 : IntKind.wrap .i64 ((k : Int) + 1 - 8) = (k : Int) + 1 - 8 := wrap_id (by omega) (by omega)
  have eG : l.getD k 0 = l[k] := by simp [List.getD, List.getElem?_eq_getElem hk1]
  have hh : hit l lim num den k = (decide (lim ≤ l[k]) && decide ((chZ (win l k)).1 * den ≤ num * (chZ (win l k)).2)) := by rw [hit, eG]
  by_cases hv : l[k] < lim
  · have hf : hit l lim num den k = false := by rw [hh]; simp; omega
    simp -dsimp [hk1, ri, hv]
    repeat' (first | omega | (simp -dsimp [E23, ri, cellp, ints, hk1, hv, w1]) | (refine Also.intro ?_ fun _ => ?_) | (refine Hold.intro fun _ => ?_) | (refine And.intro ?_ ?_))
    refine ⟨k + 1, tle_chain rfl ?_, (by (try simp -dsimp only [hpush_noH, hpush_hps, hps_over]); refine hle_hps ?_; simp -dsimp [allK, ]; repeat' (first | (refine And.intro ?_ ?_) | (refine sLe.same ?_ ?_ <;> (simp; done)) | (refine sLe.clear ?_ ?_ <;> (simp; done)) | (refine sLe.drop 1 ?_ ?_ ?_ <;> (simp; done)))), ⟨hk1, fun j hj => ?_⟩, by omega⟩
    · simp [okAll, okv]
    · by_cases e : j = k
      · subst e; exact hf
      · exact he j (by omega)
  have hv' : lim ≤ l[k] := by omega
  have hmx : (if (8 : Int) < (k : Int) + 1 then (k : Int) + 1 - 8 else 0).toNat = k - 7 := by split <;> omega
  have hs := win_slice l k
  obtain ⟨n1, n2⟩ := win_len l hk1
  obtain ⟨b1, b2, b3⟩ := chZ_bound (win l k)
  have f1 := fac8 n2
  have f2 := facN_pos (win l k).length
  have n3 : (win l k).length ≤ 12 := by omega
  have d1 := mul_abs (a := (chZ (win l k)).1) (b := den) (m := 40320) (n := 1000000) (by omega) (by omega) (by omega) (by omega)
  have d2 := mul_abs (a := num) (b := (chZ (win l k)).2) (m := 1000000) (n := 40320) (by omega) (by omega) (by omega) (by omega)
  have r0 : ∀ a b : Int, (cmpZ a b ≤ 0) = (a ≤ b) := by intro a b; unfold cmpZ; split <;> (try split) <;> simp <;> omega
  have c1l : -3000000000 ≤ (chZ (win l k)).1 := by omega
  have c1u : (chZ (win l k)).1 ≤ 3000000000 := by omega
  have c2l : -3000000000 ≤ (chZ (win l k)).2 := by omega
  have c2u : (chZ (win l k)).2 ≤ 3000000000 := by omega
  have numl : -3000000000 ≤ num := by omega
  have numu : num ≤ 3000000000 := by omega
  have denl : -3000000000 ≤ den := by omega
  have denu : den ≤ 3000000000 := by omega
  have hvn : ¬ l[k] < lim := hv
  have g1 : 0 ≤ (k : Int) + 1 := by omega
  by_cases hc : (chZ (win l k)).1 * den ≤ num * (chZ (win l k)).2
  · have ht : hit l lim num den k = true := by rw [hh]; simp [hc, hv']
    have hi := idxP_at hk1 ht he
    simp -dsimp [hk1, ri, hvn]
    repeat' (first | omega | (simp -dsimp [E23, ri, cellp, ints, hk1, hvn, w1, w2, hmx, hs, n1, n3, c1l, c1u, c2l, c2u, numl, numu, denl, denu, r0, hc, alZ, h0, hok, hi]) | (refine Also.intro ?_ fun _ => ?_) | (refine Hold.intro fun _ => ?_) | (refine And.intro ?_ ?_))
  · have hf : hit l lim num den k = false := by rw [hh]; simp; intro _; omega
    simp -dsimp [hk1, ri, hvn]
    repeat' (first | omega | (simp -dsimp [E23, ri, cellp, ints, hk1, hvn, w1, w2, hmx, hs, n1, n3, c1l, c1u, c2l, c2u, numl, numu, denl, denu, r0, hc]) | (refine Also.intro ?_ fun _ => ?_) | (refine Hold.intro fun _ => ?_) | (refine And.intro ?_ ?_))
    refine ⟨k + 1, tle_chain rfl ?_, (by (try simp -dsimp only [hpush_noH, hpush_hps, hps_over]); refine hle_hps ?_; simp -dsimp [allK, ]; repeat' (first | (refine And.intro ?_ ?_) | (refine sLe.same ?_ ?_ <;> (simp; done)) | (refine sLe.clear ?_ ?_ <;> (simp; done)) | (refine sLe.drop 1 ?_ ?_ ?_ <;> (simp; done)))), ⟨hk1, fun j hj => ?_⟩, by omega⟩
    · simp [okAll, okv]
    · by_cases e : j = k
      · subst e; exact hf
      · exact he j (by omega)
theorem ok23 : FnOK Try.prog 23 (.pure alS) := pure_fn (E := E23) rfl (.cons ok56 (.cons ok58 (.cons ok52 (.cons ok59 .nil)))) (ok := []) (fn := Try.f23) (by kernel_rfl) (by kernel_rfl) (by kernel_rfl) (by kernel_rfl) rfl (fun _ _ => by simp) b23
theorem hit_low {a b num den : Int} (ha : 0 ≤ a) (hb : 0 < b) : (lowN a b * den ≤ num * lowD a b) = (a * den ≤ num * b) := by
  obtain ⟨f1, f2, f3⟩ := low_facts ha hb
  generalize lowN a b = x at *
  generalize lowD a b = y at *
  generalize (Int.gcd a b : Int) = g at *
  subst f1 f2
  apply propext
  rw [Int.mul_right_comm, ← Int.mul_assoc]
  exact ⟨fun h => Int.mul_le_mul_of_nonneg_right h (by omega), fun h => Int.le_of_mul_le_mul_right h f3⟩
noncomputable abbrev E24 : Env := { P := Try.prog, fn := tbl [(57, .pure withinS), (20, .pure ChanceS2)], own := [], key := 2400, nt := 76 }
theorem b24 : PureBody E24 [] Try.f24 alS := by
  refine pb ?_
  rintro ⟨l, lim, num, den⟩ hl
  by_cases h0 : 64 < l.length
  · have h0' : (64 : Int) < l.length := by omega
    simp -dsimp [Try.f24, E24, ints, h0', alZ, h0]
    repeat' (first | omega | (simp -dsimp [E24, ri, cellp, ints, h0', alZ, h0]) | (refine Also.intro ?_ fun _ => ?_) | (refine Hold.intro fun _ => ?_) | (refine And.intro ?_ ?_))
  have h0' : ¬ (64 : Int) < l.length := by omega
  by_cases q2 : withinB lim (-1000000) 1000000 = true
  case neg =>
    have q2' : withinB lim (-1000000) 1000000 = false := by simpa using q2
    simp -dsimp [Try.f24, E24, ints, h0', alZ, h0, q2', alOk]
    repeat' (first | omega | (simp -dsimp [E24, ri, cellp, ints, h0', alZ, h0, q2', alOk]) | (refine Also.intro ?_ fun _ => ?_) | (refine Hold.intro fun _ => ?_) | (refine And.intro ?_ ?_))
  by_cases q3 : withinB num 0 1000000 = true
  case neg =>
    have q3' : withinB num 0 1000000 = false := by simpa using q3
    simp -dsimp [Try.f24, E24, ints, h0', alZ, h0, q2, q3', alOk]
    repeat' (first | omega | (simp -dsimp [E24, ri, cellp, ints, h0', alZ, h0, q2, q3', alOk]) | (refine Also.intro ?_ fun _ => ?_) | (refine Hold.intro fun _ => ?_) | (refine And.intro ?_ ?_))
  by_cases q4 : withinB den 1 1000000 = true
  case neg =>
    have q4' : withinB den 1 1000000 = false := by simpa using q4
    simp -dsimp [Try.f24, E24, ints, h0', alZ, h0, q2, q3, q4', alOk]
    repeat' (first | omega | (simp -dsimp [E24, ri, cellp, ints, h0', alZ, h0, q2, q3, q4', alOk]) | (refine Also.intro ?_ fun _ => ?_) | (refine Hold.intro fun _ => ?_) | (refine And.intro ?_ ?_))
  have r3 : 0 ≤ num ∧ num ≤ 1000000 := by simpa [withinB] using q3
  have r4 : 1 ≤ den ∧ den ≤ 1000000 := by simpa [withinB] using q4
  simp -dsimp [Try.f24, E24, ints, h0', q2, q3, q4]
  repeat' (first | omega | (simp -dsimp [E24, ri, cellp, ints, h0', q2, q3, q4]) | (refine Also.intro ?_ fun _ => ?_) | (refine Hold.intro fun _ => ?_) | (refine And.intro ?_ ?_))
  refine awp_loop [31, 32, 33, 34, 37, 38, 39, 40, 41, 42, 8, 9, 35, 36, 10] (fun k : { k : Nat // k ≤ l.length ∧ ∀ j (h : j < l.length), j < k → withinB l[j] (-1000000) 1000000 = true } => [(10, (true, .int .i64 (k.1 : Nat)))]) (fun k => noH) (fun k => l.length - k.1) ⟨0, by omega, fun _ _ h => by omega⟩ ?_ (HLe.refl _) ?_
  · simp [okAll, okv]
  rintro ⟨k, hk, hall⟩
  simp only
  by_cases hk1 : k < l.length
  · have w1 : IntKind.wrap .i64 ((k : Int) + 1) = (k + 1 : Nat) := wrap_id (by omega) (by omega)
    by_cases hv : withinB l[k] (-1000000) 1000000 = true
    · simp -dsimp [hk1, ri, hv]
      repeat' (first | omega | (simp -dsimp [E24, ri, cellp, ints, hk1, hv, w1]) | (refine Also.intro ?_ fun _ => ?_) | (refine Hold.intro fun _ => ?_) | (refine And.intro ?_ ?_))
      refine ⟨k + 1, tle_chain rfl ?_, HLe.refl _, ⟨by omega, fun j h hj => ?_⟩, by omega⟩
      · simp [okAll, okv]
      · by_cases hjk : j = k
        · subst hjk; exact hv
        · exact hall j h (by omega)
    · have hv' : withinB l[k] (-1000000) 1000000 = false := by simpa using hv
      have q1' : allB l (-1000000) 1000000 = false := by
        simp only [allB, List.all_eq_false]
        exact ⟨l[k], List.getElem_mem hk1, by simp [hv']⟩
      simp -dsimp [hk1, ri, hv', alZ, h0, q1', alOk]
      repeat' (first | omega | (simp -dsimp [E24, ri, cellp, ints, hk1, hv', alZ, h0, q1', alOk]) | (refine Also.intro ?_ fun _ => ?_) | (refine Hold.intro fun _ => ?_) | (refine And.intro ?_ ?_))
  have q1 : allB l (-1000000) 1000000 = true := by
    simp only [allB, List.all_eq_true]
    intro x hx
    obtain ⟨j, hj, rfl⟩ := List.getElem_of_mem hx
    exact hall j hj (by omega)
  have hok : alOk l lim num den = true := by simp [alOk, q1, q2, q3, q4]
  clear hall hk
  simp -dsimp [hk1]
  repeat' (first | omega | (simp -dsimp [E24, ri, cellp, ints, hk1]) | (refine Also.intro ?_ fun _ => ?_) | (refine Hold.intro fun _ => ?_) | (refine And.intro ?_ ?_))
  refine awp_loop [43, 44, 45, 46, 49, 50, 51, 52, 53, 54, 56, 57, 58, 59, 60, 61, 62, 63, 64, 55, 65, 66, 67, 12, 13, 14, 68, 69, 70, 71, 72, 73, 74, 75, 8, 9, 47, 48, 11] (fun k : { k : Nat // k ≤ l.length ∧ ∀ j, j < k → hit l lim num den j = false } => [(11, (true, .int .i64 (k.1 : Nat)))]) (fun k => noH) (fun k => l.length - k.1) ⟨0, by omega, fun _ h => by omega⟩ ?_ (HLe.refl _) ?_
  · simp [okAll, okv]
  rintro ⟨k, hk, he⟩
  simp only
  by_cases hk1 : k < l.length
  case neg =>
    have hke : k = l.length := by omega
    subst hke
    have := idxP_none he
    simp -dsimp [alZ, h0, hok, this]
    repeat' (first | omega | (simp -dsimp [E24, ri, cellp, ints, alZ, h0, hok, this]) | (refine Also.intro ?_ fun _ => ?_) | (refine Hold.intro fun _ => ?_) | (refine And.intro ?_ ?_))
  have w1 : IntKind.wrap .i64 ((k : Int) + 1) = (k + 1 : Nat) := wrap_id (by omega) (by omega)
  have w2 : IntKind.wrap .i64 ((k : Int) + 1 - 8) = (k : Int) + 1 - 8 := wrap_id (by omega) (by omega)
  have eG : l.getD k 0 = l[k] := by simp [List.getD, List.getElem?_eq_getElem hk1]
  have hh : hit l lim num den k = (decide (lim ≤ l[k]) && decide ((chZ (win l k)).1 * den ≤ num * (chZ (win l k)).2)) := by rw [hit, eG]
  by_cases hv : l[k] < lim
  · have hf : hit l lim num den k = false := by rw [hh]; simp; omega
    simp -dsimp [hk1, ri, hv]
    repeat' (first | omega | (simp -dsimp [E24, ri, cellp, ints, hk1, hv, w1]) | (refine Also.intro ?_ fun _ => ?_) | (refine Hold.intro fun _ => ?_) | (refine And.intro ?_ ?_))
    refine ⟨k + 1, tle_chain rfl ?_, HLe.refl _, ⟨hk1, fun j hj => ?_⟩, by omega⟩
    · simp [okAll, okv]
    · by_cases e : j = k
      · subst e; exact hf
      · exact he j (by omega)
  have hv' : lim ≤ l[k] := by omega
  have hmx : (if (8 : Int) < (k : Int) + 1 then (k : Int) + 1 - 8 else 0).toNat = k - 7 := by split <;> omega
  have hs := win_slice l k
  obtain ⟨n1, n2⟩ := win_len l hk1
  obtain ⟨b1, b2, b3⟩ := chZ_bound (win l k)
  have f1 := fac8 n2
  have f2 := facN_pos (win l k).length
  have hwv := win_valid q1 hk1
  have hce := chZ_eq (win l k)
  have hwl : (win l k).length ≤ 9223372036854775807 := by omega
  have hl := hit_low (a := (chZ (win l k)).1) (b := (chZ (win l k)).2) (num := num) (den := den) b1 (by omega)
  obtain ⟨e1, e2, e3⟩ := low_facts (num := (chZ (win l k)).1) (den := (chZ (win l k)).2) b1 (by omega)
  have b4 := lowN_le (num := (chZ (win l k)).1) (den := (chZ (win l k)).2) b1 (by omega)
  have d1 := mul_abs (a := lowN (chZ (win l k)).1 (chZ (win l k)).2) (b := den) (m := 40320) (n := 1000000) (by omega) (by omega) (by omega) (by omega)
  have d2 := mul_abs (a := num) (b := lowD (chZ (win l k)).1 (chZ (win l k)).2) (m := 1000000) (n := 40320) (by omega) (by omega) (by omega) (by omega)
  have w3 : IntKind.wrap .i64 (lowN (chZ (win l k)).1 (chZ (win l k)).2 * den) = lowN (chZ (win l k)).1 (chZ (win l k)).2 * den := wrap_id (by omega) (by omega)
  have w4 : IntKind.wrap .i64 (num * lowD (chZ (win l k)).1 (chZ (win l k)).2) = num * lowD (chZ (win l k)).1 (chZ (win l k)).2 := wrap_id (by omega) (by omega)
  have hce' := hce.symm
  have hvn : ¬ l[k] < lim := hv
  by_cases hc : (chZ (win l k)).1 * den ≤ num * (chZ (win l k)).2
  · have ht : hit l lim num den k = true := by rw [hh]; simp [hc, hv']
    have hi := idxP_at hk1 ht he
    simp -dsimp [hk1, ri, hvn]
    repeat' (first | omega | (simp -dsimp [E24, ri, cellp, ints, hk1, hvn, w1, w2, hmx, hs, hwl, hwv, hce', w3, w4, hl, hc, alZ, h0, hok, hi]) | (refine Also.intro ?_ fun _ => ?_) | (refine Hold.intro fun _ => ?_) | (refine And.intro ?_ ?_))
  · have hf : hit l lim num den k = false := by rw [hh]; simp; intro _; omega
    simp -dsimp [hk1, ri, hvn]
    repeat' (first | omega | (simp -dsimp [E24, ri, cellp, ints, hk1, hvn, w1, w2, hmx, hs, hwl, hwv, hce', w3, w4, hl, hc]) | (refine Also.intro ?_ fun _ => ?_) | (refine Hold.intro fun _ => ?_) | (refine And.intro ?_ ?_))
    refine ⟨k + 1, tle_chain rfl ?_, HLe.refl _, ⟨hk1, fun j hj => ?_⟩, by omega⟩
    · simp [okAll, okv]
    · by_cases e : j = k
      · subst e; exact hf
      · exact he j (by omega)
theorem ok24 : FnOK Try.prog 24 (.pure alS) := pure_fn (E := E24) rfl (.cons ok57 (.cons ok20 .nil)) (ok := []) (fn := Try.f24) (by kernel_rfl) (by kernel_rfl) (by kernel_rfl) (by kernel_rfl) rfl (fun _ _ => by simp) b24
structure LimD where
  lim : Int
  num : Int
  den : Int
def limV (d : LimD) : V := .agg [.int .i64 d.lim, .int .i64 d.num, .int .i64 d.den]
def V.toLim (v : V) : LimD := ⟨(v.cs.getD 0 .top).toInt, (v.cs.getD 1 .top).toInt, (v.cs.getD 2 .top).toInt⟩
abbrev trueAlS : PSpec := { dom := List Int × LimD, enc := fun d => [ints d.1, limV d.2], dec := fun l => ((l.getD 0 .top).toInts, (l.getD 1 .top).toLim), pre := fun d => d.1.length ≤ 9223372036854775807, res := fun _ => .bool true }
noncomputable abbrev E5 : Env := { P := Try.prog, fn := tbl [(18, .pure worksS), (23, .pure alS), (24, .pure alS)], own := [], key := 500, nt := 51 }
theorem b5 : PureBody E5 [] Try.f5 trueAlS := by
  refine pb ?_
  rintro ⟨l, ⟨lim, num, den⟩⟩ hl
  by_cases h1 : 6 < l.length
  · have e1 : (6 : Int) < l.length := by omega
    by_cases h2 : l.length ≤ 64
    · have e2 : (l.length : Int) ≤ 64 := by omega
      simp -dsimp [Try.f5, E5, ints, limV, e1, e2]
      repeat' (first | omega | (simp -dsimp [E5, ri, cellp, ints, e1, e2, hl, limV]) | (refine Also.intro ?_ fun _ => ?_) | (refine Hold.intro fun _ => ?_) | (refine And.intro ?_ ?_))
    · have e2 : ¬ (l.length : Int) ≤ 64 := by omega
      simp -dsimp [Try.f5, E5, ints, limV, e1, e2]
      repeat' (first | omega | (simp -dsimp [E5, ri, cellp, ints, e1, e2, hl, limV]) | (refine Also.intro ?_ fun _ => ?_) | (refine Hold.intro fun _ => ?_) | (refine And.intro ?_ ?_))
  · have e1 : ¬ (6 : Int) < l.length := by omega
    simp -dsimp [Try.f5, E5, ints, limV, e1]
    repeat' (first | omega | (simp -dsimp [E5, ri, cellp, ints, e1, hl, limV]) | (refine Also.intro ?_ fun _ => ?_) | (refine Hold.intro fun _ => ?_) | (refine And.intro ?_ ?_))
theorem ok5 : FnOK Try.prog 5 (.pure trueAlS) := pure_fn (E := E5) rfl (.cons ok18 (.cons ok23 (.cons ok24 .nil))) (ok := []) (fn := Try.f5) (by kernel_rfl) (by kernel_rfl) (by kernel_rfl) (by kernel_rfl) rfl (fun _ _ => by simp) b5
end Go.Sx

