/- HealthProof: what its law and its search call. No conditions. -/
import Derived.Test.YtjnfgejicdnjnaaSxIj
set_option linter.unusedSimpArgs false
set_option linter.unusedVariables false
set_option maxRecDepth 100000
set_option maxHeartbeats 1000000
namespace Go.Sx
open Go.Proofs

abbrev explainsS : PSpec := { dom := List (Int × Int) × List Int × List Int, enc := fun d => [.sl 2 (d.1.map rowC), ints d.2.1, ints d.2.2], dec := fun l => ((l.getD 0 .top).toCells, (l.getD 1 .top).toInts, (l.getD 2 .top).toInts), pre := fun d => d.1.length ≤ 9223372036854775807 ∧ d.2.1.length ≤ 9223372036854775807 ∧ d.2.2.length ≤ 9223372036854775807, res := fun d => .bool (expl d.1 d.2.1 d.2.2) }
noncomputable abbrev E45 : Env := { P := Try.prog, fn := tbl [(82, .pure hasS)], own := [], key := 4500, nt := 32 }
theorem b45 : PureBody E45 [] Try.f45 explainsS := by
  refine pb ?_
  rintro ⟨cells, A, B⟩ ⟨p1, p2, p3⟩
  simp only at p1 p2 p3
  simp -dsimp [Try.f45, E45, ints]
  refine awp_loop [8, 9, 10, 11, 14, 15, 16, 17, 18, 19, 20, 21, 22, 23, 24, 25, 26, 27, 28, 29, 30, 31, 6, 12, 13, 7] (fun k : { k : Nat // k ≤ cells.length ∧ expl (cells.take k) A B = true } => [(7, (true, .int .i64 (k.1 : Nat)))]) (fun _ => noH) (fun k => cells.length - k.1) ⟨0, by omega, by simp [expl]⟩ ?_ (HLe.refl _) ?_
  · simp [okAll, okv]
  rintro ⟨k, hk, hc⟩
  simp only
  by_cases hk1 : k < cells.length
  case neg =>
    have hf : expl cells A B = true := by rw [List.take_of_length_le (by omega)] at hc; exact hc
    simp -dsimp [hk1]
    repeat' (first | omega | (simp -dsimp [E45, ri, cellp, ints, hk1, hf]) | (refine Also.intro ?_ fun _ => ?_) | (refine Hold.intro fun _ => ?_) | (refine And.intro ?_ ?_))
  have w1 : IntKind.wrap .i64 ((k : Int) + 1) = (k + 1 : Nat) := wrap_id (by omega) (by omega)
  have hs : expl (cells.take (k + 1)) A B = (expl (cells.take k) A B && (decide (cells[k].1 ∈ A) || decide (cells[k].2 ∈ B))) := by
    unfold expl; rw [List.take_succ_eq_append_getElem hk1, List.all_append]; simp
  have hbad : (decide (cells[k].1 ∈ A) || decide (cells[k].2 ∈ B)) = false → expl cells A B = false := fun h => by
    unfold expl; rw [List.all_eq_false]; exact ⟨cells[k], List.getElem_mem _, by rw [h]; simp⟩
  rw [hc, Bool.true_and] at hs
  generalize hcc : cells[k] = c at *
  obtain ⟨a, b⟩ := c
  simp only at hs hbad
  by_cases ha : a ∈ A
  · simp -dsimp [hk1, hcc, rowC]
    repeat' (first | omega | (simp -dsimp [E45, ri, cellp, ints, hk1, hcc, rowC, ha, p2, w1]) | (refine Also.intro ?_ fun _ => ?_) | (refine Hold.intro fun _ => ?_) | (refine And.intro ?_ ?_))
    refine ⟨k + 1, tle_chain rfl ?_, HLe.refl _, ⟨hk1, by rw [hs]; simp [ha]⟩, by omega⟩
    simp [okAll, okv]
  by_cases hb : b ∈ B
  · simp -dsimp [hk1, hcc, rowC]
    repeat' (first | omega | (simp -dsimp [E45, ri, cellp, ints, hk1, hcc, rowC, ha, hb, p2, p3, w1]) | (refine Also.intro ?_ fun _ => ?_) | (refine Hold.intro fun _ => ?_) | (refine And.intro ?_ ?_))
    refine ⟨k + 1, tle_chain rfl ?_, HLe.refl _, ⟨hk1, by rw [hs]; simp [hb]⟩, by omega⟩
    simp [okAll, okv]
  · have hf := hbad (by simp [ha, hb])
    simp -dsimp [hk1, hcc, rowC]
    repeat' (first | omega | (simp -dsimp [E45, ri, cellp, ints, hk1, hcc, rowC, ha, hb, p2, p3, hf]) | (refine Also.intro ?_ fun _ => ?_) | (refine Hold.intro fun _ => ?_) | (refine And.intro ?_ ?_))
theorem ok45 : FnOK Try.prog 45 (.pure explainsS) := pure_fn (E := E45) rfl (.cons ok82 .nil) (ok := []) (fn := Try.f45) (by kernel_rfl) (by kernel_rfl) (by kernel_rfl) (by kernel_rfl) rfl (fun _ _ => by simp) b45
def allIn (l some : List Int) : Bool := some.all fun x => decide (x ∈ l)
abbrev allInS : PSpec := { sameS with res := fun d => .bool (allIn d.1 d.2) }
noncomputable abbrev E46 : Env := { P := Try.prog, fn := tbl [], own := [], key := 4600, nt := 34 }
theorem b46 : PureBody E46 [] Try.f46 allInS := by
  refine pb ?_
  rintro ⟨l, m⟩ ⟨p1, p2⟩
  simp only at p1 p2
  simp -dsimp [Try.f46, E46, ints]
  refine awp_loop [8, 9, 10, 11, 6, 7, 14, 15, 16, 17, 20, 21, 22, 23, 24, 25, 26, 27, 28, 29, 30, 31, 18, 19, 32, 33, 4, 12, 13, 5] (fun k : { k : Nat // k ≤ m.length ∧ allIn l (m.take k) = true } => [(5, (true, .int .i64 (k.1 : Nat)))]) (fun _ => noH) (fun k => m.length - k.1) ⟨0, by omega, by simp [allIn]⟩ ?_ (HLe.refl _) ?_
  · simp [okAll, okv]
  rintro ⟨k, hk, hc⟩
  simp only
  by_cases hk1 : k < m.length
  case neg =>
    have hf : allIn l m = true := by rw [List.take_of_length_le (by omega)] at hc; exact hc
    simp -dsimp [hk1]
    repeat' (first | omega | (simp -dsimp [E46, ri, cellp, ints, hk1, hf]) | (refine Also.intro ?_ fun _ => ?_) | (refine Hold.intro fun _ => ?_) | (refine And.intro ?_ ?_))
  have w1 : IntKind.wrap .i64 ((k : Int) + 1) = (k + 1 : Nat) := wrap_id (by omega) (by omega)
  have hs : allIn l (m.take (k + 1)) = (allIn l (m.take k) && decide (m[k] ∈ l)) := by
    unfold allIn; rw [List.take_succ_eq_append_getElem hk1, List.all_append]; simp
  have hbad : m[k] ∉ l → allIn l m = false := fun h => by
    unfold allIn; rw [List.all_eq_false]; exact ⟨m[k], List.getElem_mem _, by simp [h]⟩
  rw [hc, Bool.true_and] at hs
  generalize hv : m[k] = v at *
  simp -dsimp [hk1]
  refine awp_loop [14, 15, 16, 17, 20, 21, 22, 23, 24, 25, 26, 27, 28, 29, 30, 31, 6, 18, 19, 7] (fun i : Fin (l.length + 1) => [(7, (true, .int .i64 (i.1 : Nat))), (6, (true, .bool (decide (v ∈ l.take i.1))))]) (fun _ => noH) (fun i => l.length - i.1) ⟨0, by omega⟩ ?_ (HLe.refl _) ?_
  · simp [okAll, okv]
  rintro ⟨i, hi⟩
  simp only
  by_cases hi1 : i < l.length
  · have wi : IntKind.wrap .i64 ((i : Int) + 1) = (i + 1 : Nat) := wrap_id (by omega) (by omega)
    have ht : (v ∈ l.take (i + 1)) ↔ (v ∈ l.take i ∨ v = l[i]) := by
      rw [List.take_succ_eq_append_getElem hi1, List.mem_append, List.mem_singleton]
    by_cases h1 : v ∈ l.take i
    · simp -dsimp [hi1, h1]
      repeat' (first | omega | (simp -dsimp [E46, ri, cellp, ints, hi1, h1, wi]) | (refine Also.intro ?_ fun _ => ?_) | (refine Hold.intro fun _ => ?_) | (refine And.intro ?_ ?_))
      refine ⟨⟨i + 1, by omega⟩, tle_chain rfl ?_, HLe.refl _, by simp only; omega⟩
      simp only [okAll, okv, upds_cons, ht, h1]
      simp
    · by_cases h2 : l[i] = v
      · simp -dsimp [hi1, h1, ri]
        repeat' (first | omega | (simp -dsimp [E46, ri, cellp, ints, hi1, h1, h2, hk1, hv, wi]) | (refine Also.intro ?_ fun _ => ?_) | (refine Hold.intro fun _ => ?_) | (refine And.intro ?_ ?_))
        refine ⟨⟨i + 1, by omega⟩, tle_chain rfl ?_, HLe.refl _, by simp only; omega⟩
        simp only [okAll, okv, upds_cons, ht, h1, h2]
        simp
      · have h3 : ¬ v = l[i] := fun e => h2 e.symm
        simp -dsimp [hi1, h1, ri]
        repeat' (first | omega | (simp -dsimp [E46, ri, cellp, ints, hi1, h1, h2, hk1, hv, wi]) | (refine Also.intro ?_ fun _ => ?_) | (refine Hold.intro fun _ => ?_) | (refine And.intro ?_ ?_))
        refine ⟨⟨i + 1, by omega⟩, tle_chain rfl ?_, HLe.refl _, by simp only; omega⟩
        simp only [okAll, okv, upds_cons, ht, h1, h3]
        simp [h2]
  have hie : i = l.length := by omega
  subst hie
  rw [List.take_length]
  by_cases h1 : v ∈ l
  · simp -dsimp [h1]
    repeat' (first | omega | (simp -dsimp [E46, ri, cellp, ints, h1, w1]) | (refine Also.intro ?_ fun _ => ?_) | (refine Hold.intro fun _ => ?_) | (refine And.intro ?_ ?_))
    refine ⟨k + 1, tle_kept (kept_upds rfl (kept_forget rfl (kept_upds rfl kept_base))) ?_, HLe.refl _, ⟨hk1, by rw [hs]; simp [h1]⟩, by omega⟩
    simp [okAll, okv]
  · have hf := hbad h1
    simp -dsimp [h1]
    repeat' (first | omega | (simp -dsimp [E46, ri, cellp, ints, h1, hf]) | (refine Also.intro ?_ fun _ => ?_) | (refine Hold.intro fun _ => ?_) | (refine And.intro ?_ ?_))
theorem ok46 : FnOK Try.prog 46 (.pure allInS) := pure_fn (E := E46) rfl LOK.nil (ok := []) (fn := Try.f46) (by kernel_rfl) (by kernel_rfl) (by kernel_rfl) (by kernel_rfl) rfl (fun _ _ => by simp) b46
def ascB (l : List Int) : Bool := (List.range l.length).all fun i => i == 0 || decide (l.getD (i - 1) 0 < l.getD i 0)
abbrev ascS : PSpec := { dom := List Int, enc := fun d => [ints d], dec := fun l => (l.getD 0 .top).toInts, pre := fun d => d.length ≤ 9223372036854775807, res := fun d => .bool (ascB d) }
noncomputable abbrev E47 : Env := { P := Try.prog, fn := tbl [], own := [], key := 4700, nt := 20 }
theorem b47 : PureBody E47 [] Try.f47 ascS := by
  refine pb ?_
  rintro l p1
  simp -dsimp [Try.f47, E47, ints]
  refine awp_loop [4, 5, 6, 7, 10, 11, 12, 13, 14, 15, 16, 17, 18, 19, 2, 8, 9, 3] (fun k : { k : Nat // 1 ≤ k ∧ (k = 1 ∨ k ≤ l.length) ∧ ∀ i, i < k → i < l.length → (i == 0 || decide (l.getD (i - 1) 0 < l.getD i 0)) = true } => [(3, (true, .int .i64 (k.1 : Nat)))]) (fun _ => noH) (fun k => l.length - k.1) ⟨1, by omega, .inl rfl, fun i h _ => by simp [show i = 0 by omega]⟩ ?_ (HLe.refl _) ?_
  · simp [okAll, okv]
  rintro ⟨k, hk0, hk, hc⟩
  simp only
  by_cases hk1 : k < l.length
  case neg =>
    have hf : ascB l = true := by
      simp only [ascB, List.all_eq_true, List.mem_range]
      exact fun i hi => hc i (by omega) hi
    simp -dsimp [hk1]
    repeat' (first | omega | (simp -dsimp [E47, ri, cellp, ints, hk1, hf]) | (refine Also.intro ?_ fun _ => ?_) | (refine Hold.intro fun _ => ?_) | (refine And.intro ?_ ?_))
  have p1 : l.length ≤ 9223372036854775807 := p1
  have w1 : IntKind.wrap .i64 ((k : Int) + 1) = (k + 1 : Nat) := wrap_id (by omega) (by omega)
  have wk : IntKind.wrap .i64 ((k : Int) - 1) = (k - 1 : Nat) := by rw [wrap_id (by omega) (by omega)]; omega
  have hk2 : k - 1 < l.length := by omega
  by_cases hx : l[k] ≤ l[k - 1]
  · have hf : ascB l = false := by
      simp only [ascB, List.all_eq_false, List.mem_range]
      refine ⟨k, hk1, ?_⟩
      rw [gi hk1, gi hk2]
      simp; omega
    simp -dsimp [hk1, ri]
    repeat' (first | omega | (simp -dsimp [E47, ri, cellp, ints, hk1, hk2, wk, hx, hf]) | (refine Also.intro ?_ fun _ => ?_) | (refine Hold.intro fun _ => ?_) | (refine And.intro ?_ ?_))
  · simp -dsimp [hk1, ri]
    repeat' (first | omega | (simp -dsimp [E47, ri, cellp, ints, hk1, hk2, wk, hx, w1]) | (refine Also.intro ?_ fun _ => ?_) | (refine Hold.intro fun _ => ?_) | (refine And.intro ?_ ?_))
    refine ⟨k + 1, tle_chain rfl ?_, HLe.refl _, ⟨by omega, .inr hk1, fun i h1 h2 => ?_⟩, by omega⟩
    · simp [okAll, okv]
    · by_cases e : i = k
      · subst e
        right
        simp only [List.getElem?_eq_getElem hk1, List.getElem?_eq_getElem hk2, Option.getD_some]
        omega
      · simpa using hc i (by omega) h2
theorem ok47 : FnOK Try.prog 47 (.pure ascS) := pure_fn (E := E47) rfl LOK.nil (ok := []) (fn := Try.f47) (by kernel_rfl) (by kernel_rfl) (by kernel_rfl) (by kernel_rfl) rfl (fun _ _ => by simp) b47
theorem mul_facts : ∀ n ∈ List.range 13, bitw .and .u64 ((n : Nat) : Int) 4294967295 = n ∧ shrV .u64 ((n : Nat) : Int) 32 = 0 ∧ IntKind.wrap .u64 ((n : Nat) : Int) = n ∧ IntKind.wrap .u64 (1 * ((n : Nat) : Int)) = n := by decide +kernel
abbrev mulS : PSpec := { dom := Nat, enc := fun n => [.int .u64 1, .int .u64 (n : Int)], dec := fun l => (l.getD 1 .top).toInt.toNat, pre := fun n => n ≤ 12, res := fun n => .tup [.int .u64 0, .int .u64 (n : Int)] }
noncomputable abbrev E104 : Env := { P := Try.prog, fn := tbl [], own := [], key := 10400, nt := 51 }
theorem b104 : PureBody E104 [] Try.f104 mulS := by
  refine pb ?_
  intro n hn
  obtain ⟨a1, a2, a3, a4⟩ := mul_facts n (List.mem_range.2 (by omega))
  obtain ⟨b1, b2, b3, b4⟩ := mul_facts 1 (by simp)
  obtain ⟨c1, c2, c3, c4⟩ := mul_facts 0 (by simp)
  simp at b1 b2 b3 b4 c1 c2 c3 c4 a4
  simp -dsimp [Try.f104, E104]
  repeat' (first | omega | (simp -dsimp [E104, ri, cellp, ints, a1, a2, a3, a4, b1, b2, b3, b4, c1, c2, c3, c4]) | (refine Also.intro ?_ fun _ => ?_) | (refine Hold.intro fun _ => ?_) | (refine And.intro ?_ ?_))
theorem ok104 : FnOK Try.prog 104 (.pure mulS) := pure_fn (E := E104) rfl LOK.nil (ok := []) (fn := Try.f104) (by kernel_rfl) (by kernel_rfl) (by kernel_rfl) (by kernel_rfl) rfl (fun _ _ => by simp) b104
noncomputable abbrev E96 : Env := { P := Try.prog, fn := tbl [(104, .pure mulS)], own := [], key := 9600, nt := 30 }
theorem b96 : PureBody E96 [] Try.f96 mulS := by
  refine pb ?_
  intro n hn
  simp -dsimp [Try.f96, E96]
  repeat' (first | omega | (simp -dsimp [E96, ri, cellp, ints, hn]) | (refine Also.intro ?_ fun _ => ?_) | (refine Hold.intro fun _ => ?_) | (refine And.intro ?_ ?_))
theorem ok96 : FnOK Try.prog 96 (.pure mulS) := pure_fn (E := E96) rfl (.cons ok104 .nil) (ok := []) (fn := Try.f96) (by kernel_rfl) (by kernel_rfl) (by kernel_rfl) (by kernel_rfl) rfl (fun _ _ => by simp) b96
end Go.Sx

