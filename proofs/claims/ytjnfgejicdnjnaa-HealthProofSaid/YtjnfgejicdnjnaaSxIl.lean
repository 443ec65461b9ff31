/- HealthProof: slices.Repeat and the search. No conditions. -/
import Derived.Test.YtjnfgejicdnjnaaSxIk
set_option linter.unusedSimpArgs false
set_option linter.unusedVariables false
set_option maxRecDepth 100000
set_option maxHeartbeats 2000000
namespace Go.Sx
open Go.Proofs

/-! slices.Repeat of one number -/
def repTo (v : Int) (n k : Nat) : List Int := List.replicate k v ++ List.replicate (n - k) 0
theorem repTo_len (v : Int) {n k : Nat} (h : k ≤ n) : (repTo v n k).length = n := by simp [repTo]; omega
theorem rep_take (v : Int) {n k j : Nat} (h : j ≤ k) : (repTo v n k).take j = List.replicate j v := by
  unfold repTo
  rw [List.take_append_of_le_length (by simpa using h), List.take_replicate, Nat.min_eq_left h]
theorem rep_drop (v : Int) {n k j : Nat} (h : k ≤ j) : (repTo v n k).drop j = List.replicate (n - j) 0 := by
  unfold repTo
  rw [List.drop_append, List.drop_eq_nil_of_le (by simpa using h), List.nil_append, List.drop_replicate, List.length_replicate]
  congr 1; omega
theorem rep_step (v : Int) {n k m : Nat} (hm : m ≤ k) : (repTo v n k).take k ++ ((repTo v n k).take k).take m ++ (repTo v n k).drop (k + m) = repTo v n (k + m) := by
  rw [rep_take v (Nat.le_refl k), rep_drop v (by omega), List.take_replicate, Nat.min_eq_left hm, List.replicate_append_replicate]
  rfl
def bR (v : Int) (n k : Nat) : Blk := { z := 1, els := (repTo v n k).map ri, ty := 3 }
def repGo (args : List V) (h : Hp) : Out := match args with
  | [.sl 1 [[.int .i64 v]], .int .i64 n] => ⟨1 ≤ n ∧ n ≤ 12, .osl 7930 (hnext h 7930) n.toNat 0 n.toNat n.toNat, hpush h 7930 (bR v n.toNat n.toNat)⟩
  | _ => bad h
abbrev repS : HSpec := { go := repGo }
noncomputable abbrev E79 : Env := { P := Try.prog, fn := tbl [(96, .pure mulS)], own := [30], key := 7900, nt := 48 }
theorem b79 : HeapBody E79 [] Try.f79 repS := by
  intro args h hc
  simp only [repGo] at hc ⊢
  split at hc
  case h_2 => exact hc.elim
  rename_i v n
  obtain ⟨c1, c2⟩ := hc
  obtain ⟨n, rfl⟩ := Int.eq_ofNat_of_zero_le (show 0 ≤ n by omega)
  have n1 : 1 ≤ n := by omega
  have n2 : n ≤ 12 := by omega
  have hn0 : ¬ (n : Int) < 0 := by omega
  have wu : IntKind.wrap .u64 (n : Int) = n := wrap_u (by omega) (by omega)
  have wu1 : IntKind.wrap .u64 1 = 1 := wrap_u (by omega) (by omega)
  have wi : IntKind.wrap .i64 (n : Int) = n := wrap_id (by omega) (by omega)
  have hmx : ¬ (9223372036854775807 : Int) < n := by omega
  have hm1 : min 1 n = 1 := by omega
  have hr0 : [V.int IntKind.i64 v] :: List.replicate (n - 1) [V.int IntKind.i64 0] = (repTo v n 1).map ri := by
    simp [repTo, ri, List.map_replicate]
  have hb8 : (n : Int) * 8 ≤ 140737488355328 := by omega
  have hi : (n : Int) ≤ 9223372036854775807 := by omega
  simp only [Int.toNat_natCast]
  have hps0 := hset_push h 7930
  have hgn := hget_push_new h 7930
  simp -dsimp [Try.f79, E79, hn0, wu, wu1]
  repeat' (first | omega | (simp -dsimp [E79, ri, cellp, ints, hn0, wu, wu1, wi, hmx, n1, n2, hm1, hr0, hps0, hgn, hb8, hi]) | (refine Also.intro ?_ fun _ => ?_) | (refine Hold.intro fun _ => ?_) | (refine And.intro ?_ ?_))
  refine awp_loop [34, 35, 36, 37, 38, 39, 40, 41, 42, 43, 44, 45, 46, 8] (fun k : { k : Nat // 1 ≤ k ∧ k ≤ n } => [(8, (true, .int .i64 (k.1 : Nat)))]) (fun k => hpush h 7930 (bR v n k.1)) (fun k => n - k.1) ⟨1, by omega, n1⟩ ?_ (HLe.refl _) ?_
  · simp [okAll, okv]
  rintro ⟨k, k1, k2⟩
  simp only
  have hgk := hget_push_new h 7930 (bR v n k)
  simp only [bR] at hgk
  by_cases hk : k < n
  case neg =>
    have hkn : ¬ (k : Int) < n := by omega
    have hke : k = n := by omega
    subst hke
    simp -dsimp [hkn, bR]
    repeat' (first | omega | (simp -dsimp [E79, ri, cellp, ints, hkn, bR]) | (refine Also.intro ?_ fun _ => ?_) | (refine Hold.intro fun _ => ?_) | (refine And.intro ?_ ?_))
    try exact HLe.refl _
  have hkn : (k : Int) < n := by omega
  obtain ⟨m, hm⟩ : ∃ m, m = min k (n - k) := ⟨_, rfl⟩
  have m1 : m ≤ k := by omega
  have m2 : m ≤ n - k := by omega
  have m3 : 1 ≤ m := by omega
  have m4 : min m k = m := by omega
  have m5 : min m n = m := by omega
  have hst := rep_step v (n := n) m1
  rw [List.take_take, m4] at hst
  have hst' : List.take k (List.map ri (repTo v n k)) ++ (List.take m (List.map ri (repTo v n k)) ++ List.drop (k + m) (List.map ri (repTo v n k))) = List.map ri (repTo v n (k + m)) := by
    rw [← hst]; simp
  have hlr := repTo_len v k2
  have hne : ¬ repTo v n k = [] := by intro e; rw [e] at hlr; simp at hlr; omega
  have wk : IntKind.wrap .i64 ((k : Int) + m) = (k + m : Nat) := by rw [wrap_id (by omega) (by omega)]; omega
  have hk0 : ¬ k = 0 := by omega
  simp -dsimp [hkn, bR]
  repeat' (first | omega | (simp -dsimp [E79, ri, cellp, ints, hkn, bR, hgk, hps0, ← hm, m4, m5, hst', hlr, hne, wk, hk, hk0, k2]) | (refine Also.intro ?_ fun _ => ?_) | (refine Hold.intro fun _ => ?_) | (refine And.intro ?_ ?_))
  refine ⟨k + m, tle_chain rfl ?_, HLe.refl _, ⟨by omega, by omega⟩, by omega⟩
  simp [okAll, okv]
theorem ok79 : FnOK Try.prog 79 (.heap repS) := heap_fn (E := E79) rfl (.cons ok96 .nil) (ok := []) (fn := Try.f79) (by kernel_rfl) (by kernel_rfl) (by kernel_rfl) (by kernel_rfl) rfl (fun args h hc => by simp only [repGo] at hc; split at hc; (simp); (exact hc.elim)) b79
end Go.Sx

