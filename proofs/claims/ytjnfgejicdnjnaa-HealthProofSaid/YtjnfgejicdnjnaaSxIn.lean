/- HealthProof: Proof. No conditions. -/
import Derived.Test.YtjnfgejicdnjnaaSxIm
set_option linter.unusedSimpArgs false
set_option linter.unusedVariables false
set_option maxRecDepth 100000
set_option maxHeartbeats 2000000
namespace Go.Sx
open Go.Proofs

abbrev heap44 (box : BoxD) (G k : Nat) (o : List Int) (l : List Blk) : Hp := hps [(4413, { base := k, blks := l }), (7930, { base := 0, blks := [bOf o] }), (4411, { base := 0, blks := [bFn] }), (4410, { base := 0, blks := [bOv G] }), (4408, { base := 0, blks := [bBx box] })] noH
theorem pr_from (box : BoxD) (G M k t : Nat) (o : List Int) (ho : o.length = G) :
    (prS M).go [.int .i64 (k : Int), .bptr 4413 k 1 0 0, .bptr 4408 0 1 0 0, .bptr 4410 0 1 0 0, .bptr 4411 0 1 0 0] (heap44 box G k o [bTr t]) = ⟨PrPre M ⟨box, o, t, k, k⟩, .bool (find box.bys M k o t).1, heap44 box G k (find box.bys M k o t).2.1 [bTr (find box.bys M k o t).2.2]⟩ := by
  have g1 : hget (heap44 box G k o [bTr t]) 7930 0 = some (bOf o) := by simp [heap44, hget_hps, hps_cons]
  have g2 : hget (heap44 box G k o [bTr t]) 4413 k = some (bTr t) := by simp [heap44, hget_hps, hps_cons]
  have H : PrH G box k (heap44 box G k o [bTr t]) := ⟨⟨_, g1⟩, ⟨_, g2⟩, by simp [heap44, hget_hps, hps_cons], by simp [heap44, hget_hps, hps_cons], by simp [heap44, hget_hps, hps_cons]⟩
  have := pr_at H M k o t ho
  rw [pst_self g1 g2] at this
  rw [this]
  congr 1
  unfold pst heap44
  funext s
  simp only [hset, hps]
  by_cases h1 : s = 4413
  · subst h1; simp
  · by_cases h2 : s = 7930
    · subst h2; simp
    · simp [h1, h2]
def proofR (se ge : Int) (cells : List (Int × Int)) : List (Int × Int) × Int := if okCells se ge cells then (proofC se.toNat ge.toNat cells, 0) else ([], 1)
abbrev ProofS : PSpec := { newBoxS with res := fun d => .tup [.sl 2 ((proofR d.1 d.2.1 d.2.2).1.map rowC), .int .i64 (proofR d.1 d.2.1 d.2.2).2] }
noncomputable abbrev E44 : Env := { P := Try.prog, fn := tbl [(62, .pure newBoxS), (79, .heap repS), (80, .heap (prS 13))], own := [], key := 4400, nt := 54 }
theorem b44 : PureBody E44 [] Try.f44 ProofS := by
  refine pb ?_
  rintro ⟨se, ge, cells⟩ p1
  simp only at p1
  by_cases hv : okCells se ge cells = true
  case neg =>
    have hv' : okCells se ge cells = false := by simpa using hv
    simp -dsimp [Try.f44, E44, hv', proofR]
    repeat' (first | omega | (simp -dsimp [E44, ri, cellp, ints, hv', p1, proofR]) | (refine Also.intro ?_ fun _ => ?_) | (refine Hold.intro fun _ => ?_) | (refine And.intro ?_ ?_))
  obtain ⟨q1, q2, q3, q4⟩ := okCells_facts hv
  have q5 : 1 ≤ ge ∧ ge ≤ 12 := by simp only [okCells, Bool.and_eq_true, withinB, decide_eq_true_eq] at hv; omega
  obtain ⟨S, rfl⟩ := Int.eq_ofNat_of_zero_le (show 0 ≤ se by omega)
  obtain ⟨G, rfl⟩ := Int.eq_ofNat_of_zero_le (show 0 ≤ ge by omega)
  have hres : proofR S G cells = (cellsTo (proofTo (bysN S cells) G S) G, 0) := by
    rw [proofR, if_pos hv, Int.toNat_natCast, Int.toNat_natCast]; rfl
  rw [hres]
  have hl : (bysN S cells).length = S := by rw [q3]; simp
  have hbG : ∀ x ∈ bysN S cells, x < 2 ^ G := by
    intro x hx
    obtain ⟨s, hs, rfl⟩ := List.getElem_of_mem hx
    refine Nat.lt_pow_two_of_testBit _ fun i hi => ?_
    have hb := bysTo_bit S cells s i (by simp; omega) _ (Nat.le_refl _)
    have e : (bysN S cells).getD s 0 = (bysN S cells)[s] := by simp only [List.getD, List.getElem?_eq_getElem hs, Option.getD_some]
    rw [show bysTo S cells cells.length = bysN S cells from rfl, e] at hb
    rw [hb, List.any_eq_false]
    intro c hc
    have := ok_cell hv c (List.mem_of_mem_take hc)
    simp only [Bool.and_eq_true, decide_eq_true_eq]
    omega
  have hK := koenig (G := G) (by omega) hbG
  have g1 : (1 : Int) ≤ G := q5.1
  have g2 : (G : Int) ≤ 12 := q5.2
  have G12 : G ≤ 12 := by omega
  have G1 : 1 ≤ G := by omega
  have hrep : (repTo (-1) G G).map ri = (proofTo (bysN S cells) G 0).map ri := by simp [repTo, proofTo]
  have hz := untried_zero G
  generalize hb : bysN S cells = b at *
  have hbx : boxOf S G cells = ⟨S, G, cells.map rowC, b⟩ := by rw [boxOf, hb]
  simp -dsimp [Try.f44, E44, hv]
  repeat' (first | omega | (simp -dsimp [E44, ri, cellp, ints, hv, hbx, boxV, p1, g1, g2, G12, G1, repGo, bR]) | (refine Also.intro ?_ fun _ => ?_) | (refine Hold.intro fun _ => ?_) | (refine And.intro ?_ ?_))
  refine awp_loop [31, 32, 12, 13, 33, 34, 35, 36, 30] (fun k : Fin (S + 1) => [(30, (true, .int .i64 (k.1 : Nat)))]) (fun k => heap44 ⟨S, G, cells.map rowC, b⟩ G k.1 (proofTo b G k.1) []) (fun k => S - k.1) ⟨0, by omega⟩ ?_ ?_ ?_
  · simp [okAll, okv]
  · exact (by (try simp -dsimp only [hpush_noH, hpush_hps, hps_over]); refine hle_hps ?_; simp -dsimp [allK, bOf, bFn, bOv, bBx, boxV, hrep]; repeat' (first | (refine And.intro ?_ ?_) | (refine sLe.same ?_ ?_ <;> (simp; done)) | (refine sLe.clear ?_ ?_ <;> (first | (simp; done) | (simp; omega))) | (refine sLe.drop 1 ?_ ?_ ?_ <;> (simp; done))))
  rintro ⟨k, hk⟩
  simp only
  by_cases hk1 : k < S
  · have hki : (k : Int) < S := by omega
    have w1 : IntKind.wrap .i64 ((k : Int) + 1) = (k + 1 : Nat) := wrap_id (by omega) (by omega)
    have hKk := hK k (by omega)
    have nx := pr_from ⟨S, G, cells.map rowC, b⟩ G 13 k 0 (proofTo b G k) hKk.pairs.len
    have hpre : PrPre 13 ⟨⟨S, G, cells.map rowC, b⟩, proofTo b G k, 0, k, k⟩ :=
      ⟨by simp only [hKk.pairs.len]; omega, by simp only; omega, by simp only [hKk.pairs.len]; exact hKk.pairs, by simp only [hKk.pairs.len]; exact hbG, by simp only [hKk.pairs.len]; exact G12, by simp only; exact Nat.two_pow_pos _⟩
    have hs := proofTo_succ b G k
    simp only [heap44, bTr, bOf, bFn, bOv, bBx, boxV, Int.natCast_zero] at nx
    simp -dsimp [hki, bOf, bFn, bOv, bBx, boxV]
    repeat' (first | omega | (simp -dsimp [E44, ri, cellp, ints, hki, bOf, bFn, bOv, bBx, boxV, nx, hpre, w1]) | (refine Also.intro ?_ fun _ => ?_) | (refine Hold.intro fun _ => ?_) | (refine And.intro ?_ ?_))
    refine ⟨⟨k + 1, by omega⟩, tle_chain rfl ?_, (by (try simp -dsimp only [hpush_noH, hpush_hps, hps_over]); refine hle_hps ?_; simp -dsimp [allK, hs, bOf, bFn, bOv, bBx, boxV]; repeat' (first | (refine And.intro ?_ ?_) | (refine sLe.same ?_ ?_ <;> (simp; done)) | (refine sLe.clear ?_ ?_ <;> (first | (simp; done) | (simp; omega))) | (refine sLe.drop 1 ?_ ?_ ?_ <;> (simp; done)))), by simp only; omega⟩
    simp [okAll, okv]
  have hkS : k = S := by omega
  subst hkS
  have hlen := (hK k (by omega)).pairs.len
  generalize proofTo b G k = o at *
  have ho0 : ¬ o = [] := by intro e; rw [e] at hlen; simp at hlen; omega
  simp -dsimp [bOv]
  repeat' (first | omega | (simp -dsimp [E44, ri, cellp, ints, bOv]) | (refine Also.intro ?_ fun _ => ?_) | (refine Hold.intro fun _ => ?_) | (refine And.intro ?_ ?_))
  refine awp_loop_g [(6, 4451, 2, 69)] rfl (by simp) [40, 41, 42, 43, 14, 15, 44, 45, 46, 47, 48, 49, 50, 51, 6, 52, 39] (fun g : Fin (G + 1) => [(39, (true, .int .i64 (g.1 : Nat))), (6, (true, .bsl 4451 0 (cellsTo o g.1).length))])
    (fun g => hps [(4451, { base := 0, blks := [{ z := 2, els := (cellsTo o g.1).map rowC, ty := 69 }] }), (4413, { base := k, blks := [] }), (7930, { base := 0, blks := [bOf o] }), (4411, { base := 0, blks := [bFn] }), (4410, { base := 0, blks := [bOv G] }), (4408, { base := 0, blks := [bBx ⟨k, G, cells.map rowC, b⟩] })] noH) (fun g => G - g.1) ⟨0, by omega⟩ ?_ ?_ ?_
  · simp [okAll, okv, cellsTo]
  · exact (by (try simp -dsimp only [hpush_noH, hpush_hps, hps_over]); refine hle_hps ?_; simp -dsimp [allK, cellsTo, bOf, bFn, bOv, bBx, boxV]; repeat' (first | (refine And.intro ?_ ?_) | (refine sLe.same ?_ ?_ <;> (simp; done)) | (refine sLe.clear ?_ ?_ <;> (first | (simp; done) | (simp; omega))) | (refine sLe.drop 1 ?_ ?_ ?_ <;> (simp; done))))
  rintro ⟨g, hg⟩
  simp only
  by_cases hg1 : g < G
  · have hgi : (g : Int) < G := by omega
    have hgo : g < o.length := by omega
    have w1 : IntKind.wrap .i64 ((g : Int) + 1) = (g + 1 : Nat) := wrap_id (by omega) (by omega)
    have hs := cellsTo_succ o g
    rw [gi hgo] at hs
    have hcl := cellsTo_len o g
    have hri : ∀ n : Int, ri n = [V.int IntKind.i64 n] := fun _ => rfl
    have hgo' : o[g]? = some o[g] := List.getElem?_eq_getElem hgo
    have hb16 : ((cellsTo o g).length + 1) * 16 ≤ 140737488355328 := by omega
    by_cases h0 : 0 ≤ o[g]
    · rw [if_pos h0] at hs
      simp -dsimp [hgi, bOf, bFn, bOv, bBx, boxV]
      repeat' (first | omega | (simp -dsimp [E44, ri, cellp, ints, hgi, bOf, bFn, bOv, bBx, boxV, hri, hgo', hgo, hlen, h0, hb16, w1]) | (refine Also.intro ?_ fun _ => ?_) | (refine Hold.intro fun _ => ?_) | (refine And.intro ?_ ?_))
      refine ⟨⟨g + 1, by omega⟩, tle_chain rfl ?_, (by (try simp -dsimp only [hpush_noH, hpush_hps, hps_over]); refine hle_hps ?_; simp -dsimp [allK, hs, rowC, bOf, bFn, bOv, bBx, boxV]; repeat' (first | (refine And.intro ?_ ?_) | (refine sLe.same ?_ ?_ <;> (simp; done)) | (refine sLe.clear ?_ ?_ <;> (first | (simp; done) | (simp; omega))) | (refine sLe.drop 1 ?_ ?_ ?_ <;> (simp; done)))), by simp only; omega⟩
      simp [okAll, okv, hs]
    · rw [if_neg h0, List.append_nil] at hs
      simp -dsimp [hgi, bOf, bFn, bOv, bBx, boxV]
      repeat' (first | omega | (simp -dsimp [E44, ri, cellp, ints, hgi, bOf, bFn, bOv, bBx, boxV, hri, hgo', hgo, hlen, h0, w1]) | (refine Also.intro ?_ fun _ => ?_) | (refine Hold.intro fun _ => ?_) | (refine And.intro ?_ ?_))
      refine ⟨⟨g + 1, by omega⟩, tle_chain rfl ?_, (by (try simp -dsimp only [hpush_noH, hpush_hps, hps_over]); refine hle_hps ?_; simp -dsimp [allK, hs, bOf, bFn, bOv, bBx, boxV]; repeat' (first | (refine And.intro ?_ ?_) | (refine sLe.same ?_ ?_ <;> (simp; done)) | (refine sLe.clear ?_ ?_ <;> (first | (simp; done) | (simp; omega))) | (refine sLe.drop 1 ?_ ?_ ?_ <;> (simp; done)))), by simp only; omega⟩
      simp [okAll, okv, hs]
  have hgG : g = G := by omega
  subst hgG
  simp -dsimp
  repeat' (first | omega | (simp -dsimp [E44, ri, cellp, ints, *]) | (refine Also.intro ?_ fun _ => ?_) | (refine Hold.intro fun _ => ?_) | (refine And.intro ?_ ?_))
theorem ok44 : FnOK Try.prog 44 (.pure ProofS) := pure_fn (E := E44) rfl (.cons ok62 (.cons ok79 (.cons (ok80 13) .nil))) (ok := []) (fn := Try.f44) (by kernel_rfl) (by kernel_rfl) (by kernel_rfl) (by kernel_rfl) rfl (fun _ _ => by simp) b44
end Go.Sx

