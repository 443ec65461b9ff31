/- HealthExplains: the program's Certain. No conditions. -/
import Derived.Test.YtjnfgejicdnjnaaSxIb
set_option linter.unusedSimpArgs false
set_option linter.unusedVariables false
set_option maxRecDepth 100000
set_option maxHeartbeats 1000000
namespace Go.Sx
open Go.Proofs

def comTo (b : Bool) (l : List Ex1) (k : Nat) : List Int := ((sel b (l.getD 0 ([], []))).take k).filter fun n => !lackB l b n
theorem comTo_succ (b : Bool) (l : List Ex1) {k : Nat} (h : k < (sel b (l.getD 0 ([], []))).length) : comTo b l (k + 1) = comTo b l k ++ if lackB l b (sel b (l.getD 0 ([], [])))[k] then [] else [(sel b (l.getD 0 ([], [])))[k]] := by
  unfold comTo
  rw [List.take_succ_eq_append_getElem h, List.filter_append]
  congr 1
  cases hc : lackB l b (sel b (l.getD 0 ([], [])))[k] <;> simp only [List.filter_cons, List.filter_nil, hc] <;> rfl
theorem comTo_all (b : Bool) (l : List Ex1) : comTo b l (sel b (l.getD 0 ([], []))).length = commonZ b l := by
  unfold comTo commonZ
  rw [List.take_of_length_le (Nat.le_refl _)]
  refine List.filter_congr fun n _ => ?_
  unfold lackB
  rw [List.any_eq_not_all_not]
  simp only [Bool.not_not]
  congr 1
  funext x
  rw [List.contains_eq_mem]
theorem comTo_len (b : Bool) (l : List Ex1) (k : Nat) : (comTo b l k).length ≤ k := by
  have := List.length_filter_le (fun n => !lackB l b n) ((sel b (l.getD 0 ([], []))).take k)
  unfold comTo
  rw [List.length_take] at this
  omega
abbrev commonS : PSpec := { dom := List Ex1 × Bool, enc := fun d => [.sl 2 (d.1.map exR), .fn (selF d.2) []], dec := fun l => ((l.getD 0 .top).toExs, (l.getD 1 .top).fnNo == 71), pre := fun d => 0 < d.1.length ∧ d.1.length ≤ 1000000 ∧ ∀ x ∈ d.1, x.1.length ≤ 1000000 ∧ x.2.length ≤ 1000000, res := fun d => ints (commonZ d.2 d.1) }
noncomputable abbrev E70 : Env := { P := Try.prog, fn := tbl [(71, .pure loS), (72, .pure woS), (93, .pure lackAS)], own := [], key := 7000, nt := 27 }
theorem b70 : PureBody E70 [] Try.f70 commonS := by
  refine pb ?_
  rintro ⟨l, b⟩ ⟨p0, p1, p2⟩
  simp only at p0 p1 p2
  have e0 : l.getD 0 ([], []) = l[0] := by simp [List.getD, List.getElem?_eq_getElem p0]
  have hp0 := p2 l[0] (List.getElem_mem p0)
  have p2' : ∀ a c, (a, c) ∈ l → a.length ≤ 1000000 ∧ c.length ≤ 1000000 := fun a c h => p2 _ h
  have hne : ¬ l = [] := by intro e; subst e; simp at p0
  generalize hl0 : l[0] = x0 at *
  obtain ⟨xx, yy⟩ := x0
  simp only at hp0
  obtain ⟨hx, hy⟩ := hp0
  clear p2
  cases b
  case false =>
    have hall : comTo false l yy.length = commonZ false l := by have := comTo_all false l; rw [e0] at this; exact this
    have hsucc : ∀ k (h : k < yy.length), comTo false l (k + 1) = comTo false l k ++ if lackB l false yy[k] then [] else [yy[k]] := fun k h => by
      have := comTo_succ false l (k := k) (by rw [e0]; exact h)
      simp only [e0] at this; exact this
    have hs : yy.length ≤ 1000000 := by omega
    simp -dsimp [Try.f70, E70, p0, hne, selF]
    repeat' (first | omega | (simp -dsimp [E70, ri, cellp, ints, p0, hne, hl0, exR, exV, V.toEx]) | (refine Also.intro ?_ fun _ => ?_) | (refine Hold.intro fun _ => ?_) | (refine And.intro ?_ ?_))
    refine awp_loop_g [(4, 7024, 1, 3)] rfl (by simp) [14, 15, 16, 6, 17, 18, 19, 20, 21, 22, 23, 24, 4, 25, 13] (fun k : Fin (yy.length + 1) => [(13, (true, .int .i64 (k.1 : Nat))), (4, (true, .bsl 7024 0 (comTo false l k.1).length))])
      (fun k => hps [(7024, { base := 0, blks := [{ z := 1, els := (comTo false l k.1).map ri, ty := 3 }] }), (7006, { base := k.1, blks := [] }), (7003, { base := 0, blks := [{ z := 1, els := [[.fn 72 []]], ty := 97 }] })] noH) (fun k => yy.length - k.1) ⟨0, by omega⟩ ?_ ?_ ?_
    · simp [okAll, okv, comTo]
    · exact (by (try simp -dsimp only [hpush_noH, hpush_hps, hps_over]); refine hle_hps ?_; simp -dsimp [allK, comTo]; repeat' (first | (refine And.intro ?_ ?_) | (refine sLe.same ?_ ?_ <;> (simp; done)) | (refine sLe.clear ?_ ?_ <;> (simp; done)) | (refine sLe.drop 1 ?_ ?_ ?_ <;> (simp; done))))
    rintro ⟨k, hk⟩
    simp only
    by_cases hk1 : k < yy.length
    case neg =>
      have hke : k = yy.length := by omega
      subst hke
      simp -dsimp [hall]
      repeat' (first | omega | (simp -dsimp [E70, ri, cellp, ints, hall]) | (refine Also.intro ?_ fun _ => ?_) | (refine Hold.intro fun _ => ?_) | (refine And.intro ?_ ?_))
    have hs1 := hsucc k hk1
    have w1 : IntKind.wrap .i64 ((k : Int) + 1) = (k + 1 : Nat) := wrap_id (by omega) (by omega)
    have hcl := comTo_len false l k
    have hb8 : ((comTo false l k).length + 1) * 8 ≤ 140737488355328 := by omega
    generalize hv : yy[k] = v at *
    cases ha : lackB l false v with
    | true =>
      rw [ha, if_pos rfl, List.append_nil] at hs1
      simp -dsimp [hk1, hv, ri]
      repeat' (first | omega | (simp -dsimp [E70, ri, cellp, ints, hk1, hv, w1, capF, selF, cellp, V.fnNo, p1, p2', ha]) | (refine Also.intro ?_ fun _ => ?_) | (refine Hold.intro fun _ => ?_) | (refine And.intro ?_ ?_))
      refine ⟨⟨k + 1, by omega⟩, tle_chain rfl ?_, (by (try simp -dsimp only [hpush_noH, hpush_hps, hps_over]); refine hle_hps ?_; simp -dsimp [allK, hs1]; repeat' (first | (refine And.intro ?_ ?_) | (refine sLe.same ?_ ?_ <;> (simp; done)) | (refine sLe.clear ?_ ?_ <;> (simp; done)) | (refine sLe.drop 1 ?_ ?_ ?_ <;> (simp; done)))), by simp only; omega⟩
      simp [okAll, okv, hs1]
    | false =>
      rw [ha, if_neg (by simp)] at hs1
      simp -dsimp [hk1, hv, ri]
      repeat' (first | omega | (simp -dsimp [E70, ri, cellp, ints, hk1, hv, w1, capF, selF, cellp, V.fnNo, p1, p2', ha, hb8]) | (refine Also.intro ?_ fun _ => ?_) | (refine Hold.intro fun _ => ?_) | (refine And.intro ?_ ?_))
      refine ⟨⟨k + 1, by omega⟩, tle_chain rfl ?_, (by (try simp -dsimp only [hpush_noH, hpush_hps, hps_over]); refine hle_hps ?_; simp -dsimp [allK, hs1, ri]; repeat' (first | (refine And.intro ?_ ?_) | (refine sLe.same ?_ ?_ <;> (simp; done)) | (refine sLe.clear ?_ ?_ <;> (simp; done)) | (refine sLe.drop 1 ?_ ?_ ?_ <;> (simp; done)))), by simp only; omega⟩
      simp [okAll, okv, hs1]
  case true =>
    have hall : comTo true l xx.length = commonZ true l := by have := comTo_all true l; rw [e0] at this; exact this
    have hsucc : ∀ k (h : k < xx.length), comTo true l (k + 1) = comTo true l k ++ if lackB l true xx[k] then [] else [xx[k]] := fun k h => by
      have := comTo_succ true l (k := k) (by rw [e0]; exact h)
      simp only [e0] at this; exact this
    have hs : xx.length ≤ 1000000 := by omega
    simp -dsimp [Try.f70, E70, p0, hne, selF]
    repeat' (first | omega | (simp -dsimp [E70, ri, cellp, ints, p0, hne, hl0, exR, exV, V.toEx]) | (refine Also.intro ?_ fun _ => ?_) | (refine Hold.intro fun _ => ?_) | (refine And.intro ?_ ?_))
    refine awp_loop_g [(4, 7024, 1, 3)] rfl (by simp) [14, 15, 16, 6, 17, 18, 19, 20, 21, 22, 23, 24, 4, 25, 13] (fun k : Fin (xx.length + 1) => [(13, (true, .int .i64 (k.1 : Nat))), (4, (true, .bsl 7024 0 (comTo true l k.1).length))])
      (fun k => hps [(7024, { base := 0, blks := [{ z := 1, els := (comTo true l k.1).map ri, ty := 3 }] }), (7006, { base := k.1, blks := [] }), (7003, { base := 0, blks := [{ z := 1, els := [[.fn 71 []]], ty := 97 }] })] noH) (fun k => xx.length - k.1) ⟨0, by omega⟩ ?_ ?_ ?_
    · simp [okAll, okv, comTo]
    · exact (by (try simp -dsimp only [hpush_noH, hpush_hps, hps_over]); refine hle_hps ?_; simp -dsimp [allK, comTo]; repeat' (first | (refine And.intro ?_ ?_) | (refine sLe.same ?_ ?_ <;> (simp; done)) | (refine sLe.clear ?_ ?_ <;> (simp; done)) | (refine sLe.drop 1 ?_ ?_ ?_ <;> (simp; done))))
    rintro ⟨k, hk⟩
    simp only
    by_cases hk1 : k < xx.length
    case neg =>
      have hke : k = xx.length := by omega
      subst hke
      simp -dsimp [hall]
      repeat' (first | omega | (simp -dsimp [E70, ri, cellp, ints, hall]) | (refine Also.intro ?_ fun _ => ?_) | (refine Hold.intro fun _ => ?_) | (refine And.intro ?_ ?_))
    have hs1 := hsucc k hk1
    have w1 : IntKind.wrap .i64 ((k : Int) + 1) = (k + 1 : Nat) := wrap_id (by omega) (by omega)
    have hcl := comTo_len true l k
    have hb8 : ((comTo true l k).length + 1) * 8 ≤ 140737488355328 := by omega
    generalize hv : xx[k] = v at *
    cases ha : lackB l true v with
    | true =>
      rw [ha, if_pos rfl, List.append_nil] at hs1
      simp -dsimp [hk1, hv, ri]
      repeat' (first | omega | (simp -dsimp [E70, ri, cellp, ints, hk1, hv, w1, capF, selF, cellp, V.fnNo, p1, p2', ha]) | (refine Also.intro ?_ fun _ => ?_) | (refine Hold.intro fun _ => ?_) | (refine And.intro ?_ ?_))
      refine ⟨⟨k + 1, by omega⟩, tle_chain rfl ?_, (by (try simp -dsimp only [hpush_noH, hpush_hps, hps_over]); refine hle_hps ?_; simp -dsimp [allK, hs1]; repeat' (first | (refine And.intro ?_ ?_) | (refine sLe.same ?_ ?_ <;> (simp; done)) | (refine sLe.clear ?_ ?_ <;> (simp; done)) | (refine sLe.drop 1 ?_ ?_ ?_ <;> (simp; done)))), by simp only; omega⟩
      simp [okAll, okv, hs1]
    | false =>
      rw [ha, if_neg (by simp)] at hs1
      simp -dsimp [hk1, hv, ri]
      repeat' (first | omega | (simp -dsimp [E70, ri, cellp, ints, hk1, hv, w1, capF, selF, cellp, V.fnNo, p1, p2', ha, hb8]) | (refine Also.intro ?_ fun _ => ?_) | (refine Hold.intro fun _ => ?_) | (refine And.intro ?_ ?_))
      refine ⟨⟨k + 1, by omega⟩, tle_chain rfl ?_, (by (try simp -dsimp only [hpush_noH, hpush_hps, hps_over]); refine hle_hps ?_; simp -dsimp [allK, hs1, ri]; repeat' (first | (refine And.intro ?_ ?_) | (refine sLe.same ?_ ?_ <;> (simp; done)) | (refine sLe.clear ?_ ?_ <;> (simp; done)) | (refine sLe.drop 1 ?_ ?_ ?_ <;> (simp; done)))), by simp only; omega⟩
      simp [okAll, okv, hs1]
theorem ok70 : FnOK Try.prog 70 (.pure commonS) := pure_fn (E := E70) rfl (.cons ok71 (.cons ok72 (.cons ok93 .nil))) (ok := []) (fn := Try.f70) (by kernel_rfl) (by kernel_rfl) (by kernel_rfl) (by kernel_rfl) rfl (fun _ _ => by simp) b70
abbrev CertainS : PSpec := { newBoxS with res := fun d => .tup [ints (certR d.1 d.2.1 d.2.2).1, ints (certR d.1 d.2.1 d.2.2).2.1, .int .i64 (certR d.1 d.2.1 d.2.2).2.2] }
noncomputable abbrev E31 : Env := { P := Try.prog, fn := tbl [(62, .pure newBoxS), (64, .pure explS), (70, .pure commonS)], own := [], key := 3100, nt := 29 }
theorem b31 : PureBody E31 [] Try.f31 CertainS := by
  refine pb ?_
  rintro ⟨se, ge, cells⟩ p1
  simp only at p1
  by_cases hv : okCells se ge cells = true
  case neg =>
    have hv' : okCells se ge cells = false := by simpa using hv
    simp -dsimp [Try.f31, E31, hv', certR]
    repeat' (first | omega | (simp -dsimp [E31, ri, cellp, ints, hv', p1, certR]) | (refine Also.intro ?_ fun _ => ?_) | (refine Hold.intro fun _ => ?_) | (refine And.intro ?_ ?_))
  obtain ⟨q1, q2, q3, q4⟩ := okCells_facts hv
  have q4' : ∀ x ∈ bysN se cells, x < 4096 := q4
  have h1 := expN_pos (bysN se cells) se.toNat
  have h2 : (expN (bysN se cells) se.toNat).length ≤ 1000000 := by
    have h := expTo_len (bysN se cells) (2 ^ se.toNat)
    have : 2 ^ se.toNat ≤ 2 ^ 12 := Nat.pow_le_pow_right (by decide) (by omega)
    unfold expN; omega
  have h3 : ∀ (a b : List Int), (a, b) ∈ expN (bysN se cells) se.toNat → a.length ≤ 1000000 ∧ b.length ≤ 1000000 := fun a b hx => by
    have := expTo_mem (bysN se cells) _ (a, b) hx
    simp only at this
    omega
  have q5 : (bysN se cells).length ≤ 12 := by omega
  have q6 : se ≤ 12 := by omega
  have e1 : V.fn 71 [] = .fn (selF true) [] := rfl
  have e2 : V.fn 72 [] = .fn (selF false) [] := rfl
  simp -dsimp [Try.f31, E31, hv, boxV, boxOf]
  repeat' (first | omega | (simp -dsimp [E31, ri, cellp, ints, hv, p1, boxV, boxOf, q1, q2, q5, q6, q4', h1, h2, h3, certR, V.fnNo, selF]) | (refine Also.intro ?_ fun _ => ?_) | (refine Hold.intro fun _ => ?_) | (refine And.intro ?_ ?_))
theorem ok31 : FnOK Try.prog 31 (.pure CertainS) := pure_fn (E := E31) rfl (.cons ok62 (.cons ok64 (.cons ok70 .nil))) (ok := []) (fn := Try.f31) (by kernel_rfl) (by kernel_rfl) (by kernel_rfl) (by kernel_rfl) rfl (fun _ _ => by simp) b31
end Go.Sx

