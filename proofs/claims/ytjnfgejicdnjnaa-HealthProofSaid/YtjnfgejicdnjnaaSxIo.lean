/- HealthProof: the law. No conditions. -/
import Derived.Test.YtjnfgejicdnjnaaSxIn
set_option linter.unusedSimpArgs false
set_option linter.unusedVariables false
set_option maxRecDepth 100000
set_option maxHeartbeats 2000000
namespace Go.Sx
open Go.Proofs

abbrev trueProofS : PSpec := { dom := (Int × Int) × List (Int × Int) × List Int × List Int, enc := fun d => [.agg [.int .i64 d.1.1, .int .i64 d.1.2], .sl 2 (d.2.1.map rowC), .agg [ints d.2.2.1, ints d.2.2.2]], dec := fun l => ((((l.getD 0 .top).cs.getD 0 .top).toInt, ((l.getD 0 .top).cs.getD 1 .top).toInt), (l.getD 1 .top).toCells, ((l.getD 2 .top).cs.getD 0 .top).toInts, ((l.getD 2 .top).cs.getD 1 .top).toInts), pre := fun d => d.2.1.length ≤ 9223372036854775807 ∧ d.2.2.1.length ≤ 17592186044416 ∧ d.2.2.2.length ≤ 17592186044416, res := fun _ => .bool true }
theorem allIn_of {l some : List Int} (h : ∀ n ∈ some, n ∈ l) : allIn l some = true := by
  unfold allIn; rw [List.all_eq_true]; intro x hx; simpa using h x hx
theorem mem_take_succ {l : List (Int × Int)} {k : Nat} (h : k < l.length) (x : Int × Int) : decide (x ∈ l.take (k + 1)) = (decide (x ∈ l.take k) || decide (l[k] = x)) := by
  rw [Bool.eq_iff_iff]
  simp only [decide_eq_true_eq, Bool.or_eq_true]
  rw [List.take_add_one, List.getElem?_eq_getElem h, Option.toList_some, List.mem_append, List.mem_singleton]
  exact ⟨fun h => h.imp id Eq.symm, fun h => h.imp id Eq.symm⟩
noncomputable abbrev E14 : Env := { P := Try.prog, fn := tbl [(43, .pure chkCS), (18, .pure worksS), (28, .pure ExplainS), (44, .pure ProofS), (31, .pure CertainS), (45, .pure explainsS), (46, .pure allInS), (47, .pure ascS)], own := [], key := 1400, nt := 206 }
theorem b14 : PureBody E14 [] Try.f14 trueProofS := by
  refine pb ?_
  rintro ⟨⟨se, ge⟩, cells, A, B⟩ ⟨p1, pA, pB⟩
  simp only at p1 pA pB
  have pA' : A.length ≤ 9223372036854775807 := by omega
  have pB' : B.length ≤ 9223372036854775807 := by omega
  by_cases hv : okCells se ge cells = true
  case neg =>
    have hv' : okCells se ge cells = false := by simpa using hv
    simp -dsimp [Try.f14, E14, hv']
    repeat' (first | omega | (simp -dsimp [E14, ri, cellp, ints, hv', p1]) | (refine Also.intro ?_ fun _ => ?_) | (refine Hold.intro fun _ => ?_) | (refine And.intro ?_ ?_))
  obtain ⟨q1, q2, q3, q4⟩ := okCells_facts hv
  obtain ⟨S, rfl⟩ := Int.eq_ofNat_of_zero_le (show 0 ≤ se by omega)
  have q5 : 1 ≤ ge ∧ ge ≤ 12 := by simp only [okCells, Bool.and_eq_true, withinB, decide_eq_true_eq] at hv; omega
  obtain ⟨G, rfl⟩ := Int.eq_ofNat_of_zero_le (show 0 ≤ ge by omega)
  obtain ⟨a1, a2⟩ := ex_len (se := S) (ge := G) (cells := cells)
  obtain ⟨b1, b2⟩ := ce_len (se := S) (ge := G) (cells := cells)
  have h1 : explR S G cells = ((minX (expN (bysN S cells) S)).1, (minX (expN (bysN S cells) S)).2, 0) := by rw [explR, if_pos hv, Int.toNat_natCast]
  have h2 : certR S G cells = (commonZ true (expN (bysN S cells) S), commonZ false (expN (bysN S cells) S), 0) := by rw [certR, if_pos hv, Int.toNat_natCast]
  rw [h1] at a1 a2
  rw [h2] at b1 b2
  have hmx := minX_mem (expN_pos (bysN S cells) S)
  have i1 : allIn (minX (expN (bysN S cells) S)).1 (commonZ true (expN (bysN S cells) S)) = true := allIn_of (certain_sub hmx)
  have i2 : allIn (minX (expN (bysN S cells) S)).2 (commonZ false (expN (bysN S cells) S)) = true := allIn_of (certain_sub hmx)
  have e1 := best_explains hv
  obtain ⟨Pr, h3, hlen, hat, hap, hany, hshort⟩ : ∃ Pr : List (Int × Int), proofR S G cells = (Pr, 0) ∧ Pr.length = (minX (expN (bysN S cells) S)).1.length + (minX (expN (bysN S cells) S)).2.length ∧ (∀ c ∈ Pr, c ∈ cells) ∧
      (∀ (i k : Nat) (hi : i < Pr.length) (hk : k < i), (Pr[k]'(by omega)).1 ≠ Pr[i].1 ∧ (Pr[k]'(by omega)).2 ≠ Pr[i].2) ∧
      (expl cells A B = true → Pr.length ≤ A.length + B.length ∧ (A.length + B.length = Pr.length → (∀ n ∈ commonZ true (expN (bysN S cells) S), n ∈ A) ∧ (∀ n ∈ commonZ false (expN (bysN S cells) S), n ∈ B))) ∧ Pr.length ≤ G :=
    ⟨proofC S G cells, by rw [proofR, if_pos hv, Int.toNat_natCast, Int.toNat_natCast], by rw [proof_len hv]; rfl, proof_at hv, fun _ _ hi hk => proof_apart hv hi hk, any_expl hv, cellsTo_len _ _⟩
  generalize (minX (expN (bysN S cells) S)) = X at *
  generalize commonZ true (expN (bysN S cells) S) = sure at *
  generalize commonZ false (expN (bysN S cells) S) = gears at *
  obtain ⟨X1, X2⟩ := X
  simp only at hlen i1 i2 e1 a1 a2
  have wl : IntKind.wrap .i64 ((X1.length : Int) + X2.length) = (Pr.length : Nat) := by rw [hlen, wrap_id (by omega) (by omega)]; simp
  have wm : IntKind.wrap .i64 ((A.length : Int) + B.length) = (A.length + B.length : Nat) := by rw [wrap_id (by omega) (by omega)]; simp
  simp -dsimp [Try.f14, E14, hv]
  repeat' (first | omega | (simp -dsimp [E14, ri, cellp, ints, hv, p1, h1, h2, h3, a1, a2, b1, b2, i1, i2, e1, wl, pA', pB']) | (refine Also.intro ?_ fun _ => ?_) | (refine Hold.intro fun _ => ?_) | (refine And.intro ?_ ?_))
  refine awp_loop [96, 97, 98, 99, 16, 17, 102, 103, 104, 105, 108, 109, 110, 111, 112, 113, 114, 115, 116, 117, 118, 119, 106, 107, 18, 120, 121, 122, 125, 126, 127, 128, 129, 130, 131, 132, 133, 134, 135, 136, 137, 138, 139, 140, 141, 142, 143, 144, 145, 146, 147, 148, 149, 150, 151, 123, 124, 152, 153, 6, 100, 101, 15] (fun i : Fin (Pr.length + 1) => [(15, (true, .int .i64 (i.1 : Nat)))]) (fun _ => _) (fun i => Pr.length - i.1) ⟨0, by omega⟩ ?_ (HLe.refl _) ?_
  · simp [okAll, okv]
  rintro ⟨i, hi⟩
  simp only
  by_cases hi1 : i < Pr.length
  · have hii : (i : Int) < Pr.length := by omega
    have wi : IntKind.wrap .i64 ((i : Int) + 1) = (i + 1 : Nat) := wrap_id (by omega) (by omega)
    have hPi : Pr[i]? = some Pr[i] := List.getElem?_eq_getElem hi1
    have hmem := hat Pr[i] (List.getElem_mem hi1)
    simp -dsimp [hii]
    repeat' (first | omega | (simp -dsimp [E14, ri, cellp, ints, hii]) | (refine Also.intro ?_ fun _ => ?_) | (refine Hold.intro fun _ => ?_) | (refine And.intro ?_ ?_))
    refine awp_loop [102, 103, 104, 105, 108, 109, 110, 111, 112, 113, 114, 115, 116, 117, 118, 119, 16, 106, 107, 17] (fun k : Fin (cells.length + 1) => [(16, (true, .bool (decide (Pr[i] ∈ cells.take k.1)))), (17, (true, .int .i64 (k.1 : Nat)))]) (fun _ => _) (fun k => cells.length - k.1) ⟨0, by omega⟩ ?_ (HLe.refl _) ?_
    · simp [okAll, okv]
    rintro ⟨k, hk⟩
    simp only
    by_cases hk1 : k < cells.length
    · have hkk : (k : Int) < cells.length := by omega
      have wk : IntKind.wrap .i64 ((k : Int) + 1) = (k + 1 : Nat) := wrap_id (by omega) (by omega)
      have hck : cells[k]? = some cells[k] := List.getElem?_eq_getElem hk1
      have hs := mem_take_succ hk1 Pr[i]
      generalize decide (Pr[i] ∈ cells.take k) = b at *
      cases b with
      | true =>
        simp -dsimp [hkk]
        repeat' (first | omega | (simp -dsimp [E14, ri, cellp, ints, hkk, hck, hPi, hi1, wk, rowC]) | (refine Also.intro ?_ fun _ => ?_) | (refine Hold.intro fun _ => ?_) | (refine And.intro ?_ ?_))
        refine ⟨⟨k + 1, by omega⟩, tle_chain rfl ?_, HLe.refl _, by simp only; omega⟩
        simp [okAll, okv, hs]
      | false =>
        generalize hx : Pr[i] = x at *
        generalize hy : cells[k] = y at *
        obtain ⟨x1, x2⟩ := x
        obtain ⟨y1, y2⟩ := y
        by_cases g1 : y1 = x1 <;> by_cases g2 : y2 = x2
        all_goals
          simp -dsimp [hkk]
          repeat' (first | omega | (simp -dsimp [E14, ri, cellp, ints, hkk, hck, hPi, hi1, wk, rowC, g1, g2, hx, hy]) | (refine Also.intro ?_ fun _ => ?_) | (refine Hold.intro fun _ => ?_) | (refine And.intro ?_ ?_))
          refine ⟨⟨k + 1, by omega⟩, tle_chain rfl ?_, HLe.refl _, by simp only; omega⟩
          simp [okAll, okv, hs, g1, g2]
    have hkn : k = cells.length := by omega
    subst hkn
    have htk : decide (Pr[i] ∈ cells.take cells.length) = true := by rw [List.take_length]; simpa using hmem
    simp -dsimp [htk]
    repeat' (first | omega | (simp -dsimp [E14, ri, cellp, ints, htk]) | (refine Also.intro ?_ fun _ => ?_) | (refine Hold.intro fun _ => ?_) | (refine And.intro ?_ ?_))
    refine awp_loop [120, 121, 122, 125, 126, 127, 128, 129, 130, 131, 132, 133, 134, 135, 136, 137, 138, 139, 140, 141, 142, 143, 144, 145, 146, 147, 148, 149, 150, 151, 16, 123, 124, 18] (fun k : Fin (i + 1) => [(16, (true, .bool true)), (18, (true, .int .i64 (k.1 : Nat)))]) (fun _ => _) (fun k => i - k.1) ⟨0, by omega⟩ ?_ (HLe.refl _) ?_
    · simp [okAll, okv, hmem]
    rintro ⟨k, hk⟩
    simp only
    by_cases hk1 : k < i
    · have hkk : (k : Int) < i := by omega
      have wk : IntKind.wrap .i64 ((k : Int) + 1) = (k + 1 : Nat) := wrap_id (by omega) (by omega)
      have hkp : k < Pr.length := by omega
      have hPk : Pr[k]? = some Pr[k] := List.getElem?_eq_getElem hkp
      obtain ⟨n1, n2⟩ := hap i k hi1 hk1
      simp -dsimp [hkk]
      repeat' (first | omega | (simp -dsimp [E14, ri, cellp, ints, hkk, hkp, hPk, hPi, hi1, wk, rowC, n1, n2]) | (refine Also.intro ?_ fun _ => ?_) | (refine Hold.intro fun _ => ?_) | (refine And.intro ?_ ?_))
      refine ⟨⟨k + 1, by omega⟩, tle_chain rfl ?_, HLe.refl _, by simp only; omega⟩
      simp [okAll, okv, n1, n2]
    have hki : k = i := by omega
    subst hki
    simp -dsimp
    repeat' (first | omega | (simp -dsimp [E14, ri, cellp, ints, wi]) | (refine Also.intro ?_ fun _ => ?_) | (refine Hold.intro fun _ => ?_) | (refine And.intro ?_ ?_))
    refine ⟨⟨k + 1, by omega⟩, tle_kept (kept_upds rfl (kept_forget rfl (kept_upds rfl (kept_forget rfl (kept_upds rfl kept_base))))) ?_, HLe.refl _, by simp only; omega⟩
    simp [okAll, okv]
  have hin : i = Pr.length := by omega
  subst hin
  by_cases k1 : expl cells A B = true
  case neg =>
    have k1' : expl cells A B = false := by simpa using k1
    simp -dsimp
    repeat' (first | omega | (simp -dsimp [E14, ri, cellp, ints, p1, pA', pB', k1']) | (refine Also.intro ?_ fun _ => ?_) | (refine Hold.intro fun _ => ?_) | (refine And.intro ?_ ?_))
  by_cases k2 : ascB A = true
  case neg =>
    have k2' : ascB A = false := by simpa using k2
    simp -dsimp
    repeat' (first | omega | (simp -dsimp [E14, ri, cellp, ints, p1, pA', pB', k1, k2']) | (refine Also.intro ?_ fun _ => ?_) | (refine Hold.intro fun _ => ?_) | (refine And.intro ?_ ?_))
  by_cases k3 : ascB B = true
  case neg =>
    have k3' : ascB B = false := by simpa using k3
    simp -dsimp
    repeat' (first | omega | (simp -dsimp [E14, ri, cellp, ints, p1, pA', pB', k1, k2, k3']) | (refine Also.intro ?_ fun _ => ?_) | (refine Hold.intro fun _ => ?_) | (refine And.intro ?_ ?_))
  obtain ⟨m1, m2⟩ := hany k1
  have m1' : (Pr.length : Int) ≤ (A.length + B.length : Nat) := by omega
  by_cases m3 : Pr.length < A.length + B.length
  · have m3' : (Pr.length : Int) < (A.length + B.length : Nat) := by omega
    simp -dsimp
    repeat' (first | omega | (simp -dsimp [E14, ri, cellp, ints, p1, pA', pB', k1, k2, k3, wm, m1', m3']) | (refine Also.intro ?_ fun _ => ?_) | (refine Hold.intro fun _ => ?_) | (refine And.intro ?_ ?_))
  have m3' : ¬ (Pr.length : Int) < (A.length + B.length : Nat) := by omega
  obtain ⟨s1, s2⟩ := m2 (by omega)
  have t1 := allIn_of s1
  have t2 := allIn_of s2
  simp -dsimp
  repeat' (first | omega | (simp -dsimp [E14, ri, cellp, ints, p1, pA', pB', b1, b2, k1, k2, k3, wm, m1', m3', t1, t2]) | (refine Also.intro ?_ fun _ => ?_) | (refine Hold.intro fun _ => ?_) | (refine And.intro ?_ ?_))
theorem ok14 : FnOK Try.prog 14 (.pure trueProofS) := pure_fn (E := E14) rfl (.cons ok43 (.cons ok18 (.cons ok28 (.cons ok44 (.cons ok31 (.cons ok45 (.cons ok46 (.cons ok47 .nil)))))))) (ok := []) (fn := Try.f14) (by kernel_rfl) (by kernel_rfl) (by kernel_rfl) (by kernel_rfl) rfl (fun _ _ => by simp) b14
end Go.Sx

