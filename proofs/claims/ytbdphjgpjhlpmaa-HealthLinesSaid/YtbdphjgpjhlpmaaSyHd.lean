/- A part of a proof; no conditions. -/
import Derived.Test.YtbdphjgpjhlpmaaSyHc
set_option linter.unusedSimpArgs false
set_option linter.unusedVariables false
set_option maxRecDepth 100000
namespace Go.Sx
open Go.Proofs

/-! slices.Grow(nil, n), slices.Concat -/
def growGo (args : List V) (h : Hp) : Out := match args with
  | [.nil, .int .i64 n] => if n = 0 then ⟨True, .nil, h⟩ else ⟨0 < n ∧ n ≤ 1000000000, .osl 6722 (hnext h 6722) n.toNat 0 0 n.toNat, hpush h 6722 { z := 1, els := List.replicate n.toNat [.int .i64 0], ty := 3 }⟩
  | _ => bad h
abbrev growS : HSpec := { go := growGo }
noncomputable abbrev E67 : Env := { P := Try.prog, fn := tbl [], own := [22], key := 6700, nt := 27 }
theorem b67 : HeapBody E67 [] Try.f67 growS := by
  intro args h hc
  simp only [growGo] at hc ⊢
  split at hc
  · rename_i n
    by_cases h0 : n = 0
    · subst h0
      simp -dsimp [Try.f67, E67]
      repeat' (first | exact HLe.refl _ | omega | (simp -dsimp [E67, *]) | (refine Also.intro ?_ fun _ => ?_) | (refine Hold.intro fun _ => ?_) | (refine And.intro ?_ ?_))
    · rw [if_neg h0] at hc
      simp only at hc
      obtain ⟨c1, c2⟩ := hc
      have e1 : IntKind.wrap .i64 n = n := wrap_id (by omega) (by omega)
      simp -dsimp [Try.f67, E67, h0, e1]
      repeat' (first | exact HLe.refl _ | omega | (simp -dsimp [E67, e1, *]) | (refine Also.intro ?_ fun _ => ?_) | (refine Hold.intro fun _ => ?_) | (refine And.intro ?_ ?_))
  · exact hc.elim
theorem ok67 : FnOK Try.prog 67 (.heap growS) := heap_fn (E := E67) rfl LOK.nil (ok := []) (fn := Try.f67) (by kernel_rfl) (by kernel_rfl) (by kernel_rfl) (by kernel_rfl) rfl (fun args h hc => by
  simp only [growGo] at hc
  split at hc
  · simp
  · exact hc.elim) b67


def rl (l : List Int) : List V := [.sl 1 (l.map ri)]
def V.toLists (v : V) : List (List Int) := v.rows.map fun r => (r.getD 0 .top).toInts
@[simp] theorem toLists_rl (d : List (List Int)) : V.toLists (.sl 1 (d.map rl)) = d := by
  simp [V.toLists, List.map_map]
  induction d with
  | nil => rfl
  | cons a d ih => simp [rl, ih]
def cat (d : List (List Int)) (k : Nat) : List Int := (d.take k).flatten
theorem cat_zero (d : List (List Int)) : cat d 0 = [] := by simp [cat]
theorem cat_all (d : List (List Int)) {k : Nat} (h : d.length ≤ k) : cat d k = d.flatten := by rw [cat, List.take_of_length_le h]
theorem cat_succ (d : List (List Int)) {k : Nat} (h : k < d.length) : cat d (k + 1) = cat d k ++ d[k] := by
  unfold cat
  rw [List.take_succ_eq_append_getElem h, List.flatten_append]; simp
theorem cat_le (d : List (List Int)) (k : Nat) : (cat d k).length ≤ d.flatten.length := by
  have : d.flatten = cat d k ++ (d.drop k).flatten := by rw [cat, ← List.flatten_append, List.take_append_drop]
  rw [this, List.length_append]; omega
abbrev concatS : PSpec := { dom := List (List Int), enc := fun d => [.sl 1 (d.map rl)], dec := fun l => (l.getD 0 .top).toLists, pre := fun d => d.length ≤ 1000000 ∧ d.flatten.length ≤ 1000000, res := fun d => ints d.flatten }
noncomputable abbrev E53 : Env := { P := Try.prog, fn := tbl [(67, .heap growS)], own := [], key := 5300, nt := 36 }
theorem b53 : PureBody E53 [] Try.f53 concatS := by
  refine pb ?_
  rintro d ⟨hl, hf⟩
  simp -dsimp [Try.f53, E53, ints]
  refine awp_loop [12, 13, 14, 5, 15, 16, 17, 18, 3, 19, 20, 21, 22, 11] (fun k : Fin (d.length + 1) => [(11, (true, .int .i64 k.1)), (3, (true, .int .i64 (cat d k.1).length))]) (fun _ => noH) (fun k => d.length - k.1) ⟨0, by omega⟩ ?_ (HLe.refl _) ?_
  · simp [okAll, okv, cat_zero]
  rintro ⟨k, hk⟩
  have hw : ∀ (h : k < d.length), IntKind.wrap .i64 ((cat d k).length + d[k].length) = (cat d (k + 1)).length := by
    intro h
    have h1 := cat_le d (k + 1)
    have h2 := congrArg List.length (cat_succ d h)
    rw [List.length_append] at h2
    rw [wrap_id (by omega) (by omega)]
    omega
  by_cases hkd : k < d.length
  · simp -dsimp [rl, hkd, hw]
    repeat' (first | omega | (simp -dsimp [E53, rl, ints, *]) | (refine Also.intro ?_ fun _ => ?_) | (refine Hold.intro fun _ => ?_) | (refine And.intro ?_ ?_))
    refine ⟨⟨k + 1, by omega⟩, tle_chain rfl ?_, HLe.refl _, by simp only; omega⟩
    simp [okAll, okv]
    exact wrap_id (by omega) (by omega)
  have hkd' : k = d.length := by omega
  subst hkd'
  rw [cat_all d (Nat.le_refl _)]
  by_cases hz : d.flatten.length = 0
  · have hg : growGo [V.nil, V.int .i64 d.flatten.length] noH = ⟨True, .nil, noH⟩ := by rw [hz]; rfl
    have hem : ∀ (k : Nat) (h : k < d.length), d[k] = [] := by
      intro k h
      have h0 : d.flatten = [] := List.eq_nil_of_length_eq_zero hz
      rw [List.flatten_eq_nil_iff] at h0
      exact h0 _ (List.getElem_mem h)
    have hfl : d.flatten = [] := List.eq_nil_of_length_eq_zero hz
    rw [hfl] at hg ⊢
    simp only [List.length_nil, Int.natCast_zero] at hg ⊢
    simp -dsimp [hkd]
    repeat' (first | omega | (simp -dsimp [E53, rl, ints, hg]) | (refine Also.intro ?_ fun _ => ?_) | (refine Hold.intro fun _ => ?_) | (refine And.intro ?_ ?_))
    refine awp_loop [28, 29, 30, 8, 31, 32, 33, 6, 34, 27] (fun k : Fin (d.length + 1) => [(27, (true, .int .i64 k.1)), (6, (true, if k.1 = 0 then .nil else .bsl 5333 0 0))])
      (fun k => if k.1 = 0 then noH else hps [(5333, { base := 0, blks := [{ z := 1, els := [], ty := 3 }] })] noH) (fun k => d.length - k.1) ⟨0, by omega⟩ ?_ (HLe.of_eq (by simp)) ?_
    · simp [okAll, okv]
    rintro ⟨k, hk⟩
    by_cases h0 : k = 0
    · subst h0
      simp -dsimp [rl]
      repeat' (first | omega | (simp -dsimp [E53, rl, ints, hem, *]) | (refine Also.intro ?_ fun _ => ?_) | (refine Hold.intro fun _ => ?_) | (refine And.intro ?_ ?_))
      refine ⟨⟨1, by omega⟩, tle_chain rfl ?_, HLe.of_eq (by simp), by simp only; omega⟩
      simp [okAll, okv]
      exact wrap_id (by omega) (by omega)
    · simp -dsimp [rl, h0]
      repeat' (first | omega | (simp -dsimp [E53, rl, ints, hem, *]) | (refine Also.intro ?_ fun _ => ?_) | (refine Hold.intro fun _ => ?_) | (refine And.intro ?_ ?_))
      · refine ⟨⟨k + 1, by omega⟩, tle_chain rfl ?_, HLe.of_eq (by simp), by simp only; omega⟩
        simp [okAll, okv]
        exact wrap_id (by omega) (by omega)
      · exact List.flatten_eq_nil_iff.1 hfl
  have hg : growGo [V.nil, V.int .i64 d.flatten.length] noH = ⟨0 < (d.flatten.length : Int) ∧ (d.flatten.length : Int) ≤ 1000000000, .osl 6722 0 d.flatten.length 0 0 d.flatten.length, hps [(6722, { base := 0, blks := [{ z := 1, els := List.replicate d.flatten.length [.int .i64 0], ty := 3 }] })] noH⟩ := by
    have : ¬ (d.flatten.length : Int) = 0 := by omega
    simp only [growGo, this, if_false, hpush_noH, hnext_noH, Int.toNat_natCast]
  generalize hN : d.flatten.length = N at *
  simp -dsimp [hkd]
  repeat' (first | omega | (simp -dsimp [E53, rl, ints, hg]) | (refine Also.intro ?_ fun _ => ?_) | (refine Hold.intro fun _ => ?_) | (refine And.intro ?_ ?_))
  refine awp_loop [28, 29, 30, 8, 31, 32, 33, 6, 34, 27] (fun k : Fin (d.length + 1) => [(27, (true, .int .i64 k.1)), (6, (true, .osl 6722 0 N 0 (cat d k.1).length N))])
    (fun k => hps [(6722, { base := 0, blks := [{ z := 1, els := (cat d k.1).map ri ++ List.replicate (N - (cat d k.1).length) [V.int .i64 0], ty := 3 }] })] noH) (fun k => d.length - k.1) ⟨0, by omega⟩ ?_ (HLe.of_eq (by simp [cat_zero])) ?_
  · simp [okAll, okv, cat_zero]
  rintro ⟨k, hk⟩
  have hc1 := cat_le d k
  have hc2 := cat_le d (k + 1)
  have hsum : (cat d k).length + (N - (cat d k).length) = N := by omega
  have hlen : ∀ (h : k < d.length), (cat d k).length + d[k].length = (cat d (k + 1)).length := by
    intro h
    have h2 := congrArg List.length (cat_succ d h)
    rw [List.length_append] at h2
    exact h2.symm
  simp -dsimp [rl]
  repeat' (first | omega | (simp -dsimp [E53, rl, ints, hsum, hlen, *]) | (refine Also.intro ?_ fun _ => ?_) | (refine Hold.intro fun _ => ?_) | (refine And.intro ?_ ?_))
  · intro h; rw [h]; simpa using hz
  · rename_i hkl _
    have hl1 := hlen hkl
    refine ⟨⟨k + 1, by omega⟩, tle_chain rfl ?_, HLe.of_eq ?_, by simp only; omega⟩
    · simp [okAll, okv]
      exact wrap_id (by omega) (by omega)
    · have e : List.map ri (cat d k) ++ (List.map ri d[k] ++ List.drop (cat d (k + 1)).length (List.map ri (cat d k) ++ List.replicate (N - (cat d k).length) [V.int .i64 0])) = List.map ri (cat d (k + 1)) ++ List.replicate (N - (cat d (k + 1)).length) [V.int .i64 0] := by
        rw [List.drop_append, List.drop_eq_nil_of_le (by simp; omega), List.drop_replicate, cat_succ d hkl, List.map_append, List.append_assoc, List.nil_append, List.length_map, List.length_append]
        congr 3
        omega
      rw [e]
  · rw [cat_all d (by omega), List.map_flatten]
theorem ok53 : FnOK Try.prog 53 (.pure concatS) := pure_fn (E := E53) rfl (.cons ok67 .nil) (ok := []) (fn := Try.f53) (by kernel_rfl) (by kernel_rfl) (by kernel_rfl) (by kernel_rfl) rfl (fun _ _ => by simp) b53
end Go.Sx


