/- A part of a proof; no conditions. -/
import Derived.Test.YtnpdjaikmdagmaaDoorP13
set_option linter.unusedSimpArgs false
set_option linter.unusedVariables false
set_option linter.unusedSectionVars false
section
/- Parts: the iterator over cycles. No conditions. -/
set_option linter.unusedSimpArgs false
set_option maxRecDepth 100000
set_option maxHeartbeats 1000000
namespace Go.Sx
open Go.Proofs

def cntS : Nat → HSpec → HSpec := itS [7520, 7559, 7832] [5201] cntDec
theorem cnt_inv {l : Nat} {Y : HSpec} {args : List V} {h : Hp} (hc : ((cntS l Y).go args h).c) : ∃ i B L, args = [.yld l, .bptr 5201 i 1 0 0] ∧ Loc Y [7520, 7559, 7832] [5201] ∧ (∀ k ∈ [7520, 7559, 7832], h k = { base := (h k).base, blks := [] }) ∧ hget h 5201 i = some B ∧ B.z = 1 ∧ B.els = [[ints L]] ∧ L.length ≤ 100000 ∧ Bd L ∧
    (feed Y ((cycles L).map cycV) h).1 ∧ ((cntS l Y).go args h).v = .tup [] ∧ ((cntS l Y).go args h).h = hps ([7520, 7559, 7832].map fun k => (k, { base := (h k).base + 1000000, blks := [] })) (feed Y ((cycles L).map cycV) h).2 := by
  obtain ⟨caps, rfl, h2, h3, h4, h5, h6, h7⟩ := its_inv hc
  obtain ⟨i, B, L, rfl, k1, k2, k3, k4, k5, k6⟩ := cntDec_inv h4
  rw [k6] at h5 h7
  exact ⟨i, B, L, rfl, h2, h3, k1, k2, k3, k4, k5, h5, h6, h7⟩
theorem del_go {h : Hp} {s i n a b : Nat} {B : Blk} (hB : hget h s i = some B) (c1 : B.fz = false) (c2 : B.z = 1) (c3 : n = B.els.length) (c4 : a < b) (c5 : b < n) (c6 : n ≤ 1000000) (c7 : B.ty = 3) (c8 : s ≠ 999999999) :
    delS.go [.bsl s i n, .int .i64 (a : Nat), .int .i64 (b : Nat)] h = ⟨True, .bsl 7832 (hnext h 7832) (n - (b - a)), hpush (hcut h s i) 7832 { B with els := B.els.take a ++ B.els.drop b }⟩ := by
  have hgo : delS.go [.bsl s i n, .int .i64 (a : Nat), .int .i64 (b : Nat)] h = ⟨B.fz = false ∧ B.z = 1 ∧ n = B.els.length ∧ (0 : Int) ≤ a ∧ (a : Int) < b ∧ (b : Int) < n ∧ n ≤ 1000000 ∧ B.ty = 3 ∧ s ≠ 999999999, .bsl 7832 (hnext h 7832) (n - ((b : Int).toNat - (a : Int).toNat)), hpush (hcut h s i) 7832 { B with els := B.els.take (a : Int).toNat ++ B.els.drop (b : Int).toNat }⟩ := by simp only [delS, hB]
  rw [hgo]
  simp only [Int.toNat_natCast]
  congr 1
  exact eq_true ⟨c1, c2, c3, by omega, by omega, by omega, c6, c7, c8⟩
theorem del_ys {args : List V} {h : Hp} (hc : (delS.go args h).c) (hy : (h YS).blks = []) : (delS.go args h).h YS = h YS := by
  obtain ⟨s, i, n, B, a, b, _, hB, _, _, _, _, _, _, _, _, hh⟩ := del_inv hc
  rw [hh]
  exact (hpush_ys _ (by decide) _).trans (hcut_ys hy hB)
theorem kp81 : ∀ f S, tbl [(76, .pure turnS), (77, .pure distS), (78, .heap delS)] f = some (.heap S) → ∀ args h, (S.go args h).c → (h YS).blks = [] → (S.go args h).h YS = h YS := by
  intro f S hf args h hc hy
  simp only [tbl_cons, tbl_nil] at hf
  split at hf
  · cases hf
  · split at hf
    · cases hf
    · split at hf
      · cases hf; exact del_ys hc hy
      · cases hf
/-- Between two points. -/
structure CntO (Y : HSpec) (FH : Hp) (P : List Int) (b1 b2 b3 : Nat) where
  k : Nat
  pile : List Int
  H : Hp
  b : Nat
  c : Nat
  d : Nat
  hk : k ≤ P.length
  hl : pile.length ≤ k
  hp : Bd pile
  hf : (feed Y ((cyc (P.drop k) pile).map cycV) H).1 ∧ (feed Y ((cyc (P.drop k) pile).map cycV) H).2 = FH
  hb : b + pile.length ≤ b1 + k ∧ c + pile.length ≤ b2 + k ∧ d + pile.length ≤ b3 + k
/-- Between two cycles. -/
structure CntI (Y : HSpec) (FH : Hp) (P : List Int) (b1 b2 b3 k : Nat) where
  pile : List Int
  H : Hp
  b : Nat
  c : Nat
  d : Nat
  hl : pile.length ≤ k + 1
  hp : Bd pile
  hf : (feed Y (((red pile).1 ++ cyc (P.drop (k + 1)) (red pile).2).map cycV) H).1 ∧ (feed Y (((red pile).1 ++ cyc (P.drop (k + 1)) (red pile).2).map cycV) H).2 = FH
  hb : b + pile.length ≤ b1 + (k + 1) ∧ c + pile.length ≤ b2 + (k + 1) ∧ d + pile.length ≤ b3 + (k + 1)
/-- Behind the points. -/
structure CntT (Y : HSpec) (FH : Hp) (pile : List Int) where
  i : Nat
  H : Hp
  hi : i ≤ pile.length
  hf : (feed Y (((tailC pile).drop (i - 1)).map cycV) H).1 ∧ (feed Y (((tailC pile).drop (i - 1)).map cycV) H).2 = FH
theorem tailC_drop {pile : List Int} {i : Nat} (h : i + 1 < pile.length) : (tailC pile).drop i = (dist (pile.getD (i + 1) 0) (pile.getD i 0), 1) :: (tailC pile).drop (i + 1) := by
  have hl : i < (tailC pile).length := by simp [tailC]; omega
  rw [List.drop_eq_getElem_cons hl]
  simp [tailC]
noncomputable abbrev E75 : Env := { P := Tryd.prog, fn := tbl [(76, .pure turnS), (77, .pure distS), (78, .heap delS)], own := [59], key := 7500, nt := 94, frz := [(7, [1000000 + 7520003])] }
theorem b75 : IterBody E75 [] Tryd.f75 cntS := by
  intro l Y args h hc hyb hyf
  obtain ⟨i, B, L, rfl, hloc, hfr, hB, hz, hL, hL1, hL2, hfd, hv, hh⟩ := cnt_inv hc
  rw [hv, hh]
  clear hv hh hc
  obtain ⟨z, els, ty, fz, cl⟩ := B
  simp only at hz hL
  subst hz hL
  have f1 := hfr 7520 (by simp)
  have f2 := hfr 7559 (by simp)
  have f3 := hfr 7832 (by simp)
  obtain ⟨FH, hFH⟩ : ∃ FH, (feed Y ((cycles L).map cycV) h).2 = FH := ⟨_, rfl⟩
  rw [hFH]
  simp only [List.map_cons, List.map_nil]
  generalize hb1 : (h 7520).base = b1 at *
  generalize hb2 : (h 7559).base = b2 at *
  generalize hb3 : (h 7832).base = b3 at *
  have hself : hps [(7520, { base := b1, blks := [] }), (7559, { base := b2, blks := [] }), (7832, { base := b3, blks := [] })] h = h := hps_self (by
    intro k hk
    simp at hk
    rcases hk with rfl | rfl | rfl
    · rw [f1]; rfl
    · rw [f2]; rfl
    · rw [f3]; rfl)
  have hB0 : ¬ i < (h 5201).base ∧ (h 5201).blks[i - (h 5201).base]? = some { z := 1, els := [[ints L]], ty := ty, fz := fz, cl := cl } := by
    unfold hget at hB
    split at hB
    · cases hB
    · exact ⟨by assumption, hB⟩
  obtain ⟨hB1, hB2⟩ := hB0
  have hTb := turn_bd hL2
  have hTl := turn_len L
  have hL3 : L.length ≤ 1000000 := by omega
  rw [← hself]
  simp -dsimp [Tryd.f75, E75]
  repeat' (first | omega | (simp -dsimp [E75, ri, cellp, ints, hB1, hB2, hL3, ints]) | (refine Also.intro ?_ fun _ => ?_) | (refine Hold.intro fun _ => ?_) | (refine And.intro ?_ ?_))
  have hcyc : cycles L = cyc (turn L) [] := rfl
  rw [hcyc] at hfd hFH
  generalize turn L = P at *
  clear hB hB1 hB2 hself f1 f2 f3 hb1 hb2 hb3 hfr
  refine awp_loop_g [(3, 7520, 1, 3)] rfl (by simp) [14, 15, 16, 5, 17, 18, 19, 20, 3, 21, 22, 6, 23, 24, 27, 28, 29, 30, 31, 32, 33, 34, 35, 36, 37, 38, 39, 40, 41, 42, 43, 44, 45, 46, 47, 48, 7, 8, 49, 50, 51, 52, 53, 54, 55, 56, 57, 58, 59, 60, 61, 62, 63, 64, 65, 66, 67, 68, 69, 25, 26, 70, 13] (fun q : CntO Y FH P b1 b2 b3 => [(13, (true, .int .i64 (q.k : Nat))), (3, (true, .bsl 7520 q.b q.pile.length))])
    (fun q => hps [(7520, { base := q.b, blks := [{ z := 1, els := q.pile.map ri, ty := 3 }] }), (7559, { base := q.c, blks := [] }), (7832, { base := q.d, blks := [] })] q.H) (fun q => P.length - q.k) { k := 0, pile := [], H := h, b := b1, c := b2, d := b3, hk := by simp, hl := by simp, hp := by intro x hx; simp at hx, hf := ⟨hfd, hFH⟩, hb := by simp } ?_ ?_ ?_
  · simp [okAll, okv]
  · exact (by (try simp -dsimp only [hpush_noH, hpush_hps, hps_over]); refine hle_hpsb ?_; simp -dsimp [allK, ]; repeat' (first | (refine And.intro ?_ ?_) | (refine sLe.same ?_ ?_ <;> (simp; done)) | (refine sLe.clear ?_ ?_ <;> (first | (simp; done) | (simp; omega))) | (refine sLe.drop 1 ?_ ?_ ?_ <;> (simp; done))))
  clear hfd hFH
  rintro ⟨k, pile, H, b, c, d, hk, hpl, hpb, ⟨hfd, hFH⟩, hbb, hcc, hdd⟩
  simp only
  by_cases hk1 : k < P.length
  · have hki : (k : Int) < P.length := by omega
    have wk : IntKind.wrap .i64 ((k : Int) + 1) = (k + 1 : Nat) := wrap_id (by omega) (by omega)
    have hdr : P.drop k = P[k] :: P.drop (k + 1) := List.drop_eq_getElem_cons hk1
    rw [hdr, cyc] at hfd hFH
    have hpk := hTb _ (List.getElem_mem hk1)
    have hb8 : (pile.length + 1) * 8 ≤ 140737488355328 := by omega
    simp -dsimp [hki]
    repeat' (first | omega | (simp -dsimp [E75, ri, cellp, ints, hki, hk1, hb8]) | (refine Also.intro ?_ fun _ => ?_) | (refine Hold.intro fun _ => ?_) | (refine And.intro ?_ ?_))
    have hpl1 : (pile ++ [P[k]]).length = pile.length + 1 := by simp
    have hmap1 : (pile ++ [P[k]]).map ri = pile.map ri ++ [[V.int .i64 P[k]]] := by simp [ri]
    have hpb1 : Bd (pile ++ [P[k]]) := fun x hx => by
      rcases List.mem_append.1 hx with hx | hx
      · exact hpb x hx
      · simp at hx; subst hx; exact hpk
    rw [← hmap1]
    generalize hU0 : pile ++ [P[k]] = U0 at *
    refine awp_loop [23, 24, 27, 28, 29, 30, 31, 32, 33, 34, 35, 36, 37, 38, 39, 40, 41, 42, 43, 44, 45, 46, 47, 48, 7, 8, 49, 50, 51, 52, 53, 54, 55, 56, 57, 58, 59, 3, 60, 61, 62, 63, 64, 65, 66, 67, 68, 69, 25, 26, 6] (fun q : CntI Y FH P b1 b2 b3 k => [(6, (true, .int .i64 (q.pile.length : Nat))), (3, (true, .bsl 7520 q.b q.pile.length))])
      (fun q => hps [(7520, { base := q.b, blks := [{ z := 1, els := q.pile.map ri, ty := 3 }] }), (7559, { base := q.c, blks := [] }), (7832, { base := q.d, blks := [] })] q.H) (fun q => q.pile.length) { pile := U0, H := H, b := b, c := c, d := d, hl := by omega, hp := hpb1, hf := ⟨hfd, hFH⟩, hb := by omega } ?_ ?_ ?_
    · simp [okAll, okv, hpl1]
    · exact (by (try simp -dsimp only [hpush_noH, hpush_hps, hps_over]); refine hle_hpsb ?_; simp -dsimp [allK, ]; repeat' (first | (refine And.intro ?_ ?_) | (refine sLe.same ?_ ?_ <;> (simp; done)) | (refine sLe.clear ?_ ?_ <;> (first | (simp; done) | (simp; omega))) | (refine sLe.drop 1 ?_ ?_ ?_ <;> (simp; done))))
    clear hfd hFH hpb1 hmap1 hpl1 hU0
    rintro ⟨U, H, b, c, d, hUl, hUb, ⟨hfd, hFH⟩, hbb, hcc, hdd⟩
    simp only
    generalize hm : U.length = m at *
    by_cases h3 : 3 ≤ m
    case neg =>
      rw [red_small (by omega)] at hfd hFH
      have h3' : ((3 : Int) ≤ m) = False := eq_false (by omega)
      simp -dsimp [h3']
      repeat' (first | omega | (simp -dsimp [E75, ri, cellp, ints, h3', wk]) | (refine Also.intro ?_ fun _ => ?_) | (refine Hold.intro fun _ => ?_) | (refine And.intro ?_ ?_))
      refine ⟨{ k := k + 1, pile := U, H := H, b := b, c := c, d := d, hk := by omega, hl := by omega, hp := hUb, hf := ⟨hfd, hFH⟩, hb := by omega }, tle_kept (kept_upds rfl (kept_forget rfl (kept_upds rfl kept_base))) ?_, (by (try simp -dsimp only [hpush_noH, hpush_hps, hps_over]); refine hle_hpsb ?_; simp -dsimp [allK, ]; repeat' (first | (refine And.intro ?_ ?_) | (refine sLe.same ?_ ?_ <;> (simp; done)) | (refine sLe.clear ?_ ?_ <;> (first | (simp; done) | (simp; omega))) | (refine sLe.drop 1 ?_ ?_ ?_ <;> (simp; done)))), by simp only; omega⟩
      simp [okAll, okv, hm]
    have h3' : (3 : Int) ≤ m := by omega
    have l1 : m - 1 < U.length := by omega
    have l2 : m - 2 < U.length := by omega
    have l3 : m - 3 < U.length := by omega
    have e1 : U[m - 1]? = some U[m - 1] := List.getElem?_eq_getElem l1
    have e2 : U[m - 2]? = some U[m - 2] := List.getElem?_eq_getElem l2
    have e3 : U[m - 3]? = some U[m - 3] := List.getElem?_eq_getElem l3
    have g1 : U.getD (m - 1) 0 = U[m - 1] := by simp [List.getD, e1]
    have g2 : U.getD (m - 2) 0 = U[m - 2] := by simp [List.getD, e2]
    have g3 : U.getD (m - 3) 0 = U[m - 3] := by simp [List.getD, e3]
    have d1 := hUb _ (List.getElem_mem l1)
    have d2 := hUb _ (List.getElem_mem l2)
    have d3 := hUb _ (List.getElem_mem l3)
    have w1 : IntKind.wrap .i64 ((m : Int) - 1) = (m - 1 : Nat) := by rw [wrap_id (by omega) (by omega)]; omega
    have w2 : IntKind.wrap .i64 ((m : Int) - 2) = (m - 2 : Nat) := by rw [wrap_id (by omega) (by omega)]; omega
    have w3 : IntKind.wrap .i64 ((m : Int) - 3) = (m - 3 : Nat) := by rw [wrap_id (by omega) (by omega)]; omega
    have rs := red_stop (pile := U) (by omega)
    have rh := red_half (pile := U)
    have rw' := red_whole (pile := U)
    rw [hm, g1, g2, g3] at rs rh rw'
    generalize hu1 : U[m - 1] = u1 at *
    generalize hu2 : U[m - 2] = u2 at *
    generalize hu3 : U[m - 3] = u3 at *
    have dd1 : ((-4000000000000 : Int) ≤ u1 ∧ u1 ≤ 4000000000000) := by omega
    have dd2 : ((-4000000000000 : Int) ≤ u2 ∧ u2 ≤ 4000000000000) := by omega
    have dd3 : ((-4000000000000 : Int) ≤ u3 ∧ u3 ≤ 4000000000000) := by omega
    generalize hx : dist u1 u2 = x at *
    generalize hy : dist u2 u3 = y at *
    by_cases hxy : x < y
    · rw [rs hxy] at hfd hFH
      have hxy' : (x < y) = True := eq_true hxy
      simp -dsimp [h3']
      repeat' (first | omega | (simp -dsimp [E75, ri, cellp, ints, h3', wk, hm, l1, l2, l3, e1, e2, e3, hu1, hu2, hu3, w1, w2, w3, dd1, dd2, dd3, hx, hy, hxy']) | (refine Also.intro ?_ fun _ => ?_) | (refine Hold.intro fun _ => ?_) | (refine And.intro ?_ ?_))
      refine ⟨{ k := k + 1, pile := U, H := H, b := b, c := c, d := d, hk := by omega, hl := by omega, hp := hUb, hf := ⟨hfd, hFH⟩, hb := by omega }, tle_kept (kept_upds rfl (kept_forget rfl (kept_upds rfl kept_base))) ?_, (by (try simp -dsimp only [hpush_noH, hpush_hps, hps_over]); refine hle_hpsb ?_; simp -dsimp [allK, ]; repeat' (first | (refine And.intro ?_ ?_) | (refine sLe.same ?_ ?_ <;> (simp; done)) | (refine sLe.clear ?_ ?_ <;> (first | (simp; done) | (simp; omega))) | (refine sLe.drop 1 ?_ ?_ ?_ <;> (simp; done)))), by simp only; omega⟩
      simp [okAll, okv, hm]
    have hxy' : (x < y) = False := eq_false hxy
    by_cases hm3 : m = 3
    · rw [rh hm3 hxy] at hfd hFH
      simp only [List.cons_append, List.map_cons, cycV] at hfd hFH
      obtain ⟨hc, bb, hv, ht, hf⟩ := feed_step hfd
      have hgo : ∀ S1 S2 S3, Y.go [.int .i64 y, .int .i64 1] (hps [(7520, S1), (7559, S2), (7832, S3)] H) = ⟨True, .bool bb, hps [(7520, S1), (7559, S2), (7832, S3)] (Y.go [.int .i64 y, .int .i64 1] H).h⟩ := fun S1 S2 S3 => hloc.go hc hv [(7520, S1), (7559, S2), (7832, S3)]
      cases bb with
      | false =>
        rw [hf rfl] at hFH
        generalize (Y.go [.int .i64 y, .int .i64 1] H).h = H' at *
        subst hFH
        have hm3i : ((m : Int) = 3) = True := eq_true (by omega)
        have hle : HLe (hps [(7520, { base := b, blks := [{ z := 1, els := U.map ri, ty := 3 }] }), (7559, { base := c, blks := [] }), (7832, { base := d, blks := [] })] H') (hps [(7520, { base := b1 + 1000000, blks := [] }), (7559, { base := b2 + 1000000, blks := [] }), (7832, { base := b3 + 1000000, blks := [] })] H') := (by (try simp -dsimp only [hpush_noH, hpush_hps, hps_over]); refine hle_hpsb ?_; simp -dsimp [allK, ]; repeat' (first | (refine And.intro ?_ ?_) | (refine sLe.same ?_ ?_ <;> (simp; done)) | (refine sLe.clear ?_ ?_ <;> (first | (simp; done) | (simp; omega))) | (refine sLe.drop 1 ?_ ?_ ?_ <;> (simp; done))))
        simp -dsimp [h3']
        repeat' (first | omega | (simp -dsimp [E75, ri, cellp, ints, h3', wk, hm, l1, l2, l3, e1, e2, e3, hu1, hu2, hu3, w1, w2, w3, dd1, dd2, dd3, hx, hy, hxy', hgo, hm3i, hle]) | (refine Also.intro ?_ fun _ => ?_) | (refine Hold.intro fun _ => ?_) | (refine And.intro ?_ ?_))
      | true =>
        obtain ⟨hf1, hf2⟩ := ht rfl
        rw [hf2] at hFH
        generalize (Y.go [.int .i64 y, .int .i64 1] H).h = H' at *
        have hm3i : ((m : Int) = 3) = True := eq_true (by omega)
        have hne : ¬ (U.map ri).tail = [] := by
          intro e
          have := congrArg List.length e
          simp at this; omega
        have htl : (U.drop 1).map ri = (U.map ri).tail := by simp
        have hta : List.take (m - 1) (U.map ri).tail = (U.map ri).tail := List.take_of_length_le (by simp; omega)
        simp -dsimp [h3']
        repeat' (first | omega | (simp -dsimp [E75, ri, cellp, ints, h3', wk, hm, l1, l2, l3, e1, e2, e3, hu1, hu2, hu3, w1, w2, w3, dd1, dd2, dd3, hx, hy, hxy', hgo, hm3i, hne, hta]) | (refine Also.intro ?_ fun _ => ?_) | (refine Hold.intro fun _ => ?_) | (refine And.intro ?_ ?_))
        refine ⟨{ pile := U.drop 1, H := H', b := b + 1, c := c + 1, d := d, hl := by rw [List.length_drop]; omega, hp := fun z hz => hUb z (List.mem_of_mem_drop hz), hf := ⟨hf1, hFH⟩, hb := by rw [List.length_drop]; omega }, tle_chain rfl ?_, (by (try simp -dsimp only [hpush_noH, hpush_hps, hps_over]); refine hle_hpsb ?_; simp -dsimp [allK, htl, hta]; repeat' (first | (refine And.intro ?_ ?_) | (refine sLe.same ?_ ?_ <;> (simp; done)) | (refine sLe.clear ?_ ?_ <;> (first | (simp; done) | (simp; omega))) | (refine sLe.drop 1 ?_ ?_ ?_ <;> (simp; done)))), by simp only [List.length_drop]; omega⟩
        simp [okAll, okv, hm]
    · rw [rw' (by omega) hxy] at hfd hFH
      simp only [List.cons_append, List.map_cons, cycV] at hfd hFH
      obtain ⟨hc, bb, hv, ht, hf⟩ := feed_step hfd
      have hgo : ∀ S1 S2 S3, Y.go [.int .i64 y, .int .i64 2] (hps [(7520, S1), (7559, S2), (7832, S3)] H) = ⟨True, .bool bb, hps [(7520, S1), (7559, S2), (7832, S3)] (Y.go [.int .i64 y, .int .i64 2] H).h⟩ := fun S1 S2 S3 => hloc.go hc hv [(7520, S1), (7559, S2), (7832, S3)]
      have hm3i : ((m : Int) = 3) = False := eq_false (by omega)
      cases bb with
      | false =>
        rw [hf rfl] at hFH
        generalize (Y.go [.int .i64 y, .int .i64 2] H).h = H' at *
        subst hFH
        have hle : HLe (hps [(7520, { base := b, blks := [{ z := 1, els := U.map ri, ty := 3 }] }), (7559, { base := c, blks := [] }), (7832, { base := d, blks := [] })] H') (hps [(7520, { base := b1 + 1000000, blks := [] }), (7559, { base := b2 + 1000000, blks := [] }), (7832, { base := b3 + 1000000, blks := [] })] H') := (by (try simp -dsimp only [hpush_noH, hpush_hps, hps_over]); refine hle_hpsb ?_; simp -dsimp [allK, ]; repeat' (first | (refine And.intro ?_ ?_) | (refine sLe.same ?_ ?_ <;> (simp; done)) | (refine sLe.clear ?_ ?_ <;> (first | (simp; done) | (simp; omega))) | (refine sLe.drop 1 ?_ ?_ ?_ <;> (simp; done))))
        simp -dsimp [h3']
        repeat' (first | omega | (simp -dsimp [E75, ri, cellp, ints, h3', wk, hm, l1, l2, l3, e1, e2, e3, hu1, hu2, hu3, w1, w2, w3, dd1, dd2, dd3, hx, hy, hxy', hgo, hm3i, hle]) | (refine Also.intro ?_ fun _ => ?_) | (refine Hold.intro fun _ => ?_) | (refine And.intro ?_ ?_))
      | true =>
        obtain ⟨hf1, hf2⟩ := ht rfl
        rw [hf2] at hFH
        generalize (Y.go [.int .i64 y, .int .i64 2] H).h = H' at *
        have hdel := del_go (h := hps [(7520, { base := b, blks := [{ z := 1, els := U.map ri, ty := 3 }] }), (7559, { base := c, blks := [] }), (7832, { base := d, blks := [] })] H') (s := 7520) (i := b) (n := m) (a := m - 3) (b := m - 1) (B := { z := 1, els := U.map ri, ty := 3 }) (by simp [hget_hps, hps_cons]) rfl rfl (by simp [hm]) (by omega) (by omega) (by omega) rfl (by decide)
        have hmp : List.take (m - 3) (U.map ri) ++ List.drop (m - 1) (U.map ri) = (U.take (m - 3) ++ U.drop (m - 1)).map ri := by simp
        have hms : m - ((m - 1) - (m - 3)) = (U.take (m - 3) ++ U.drop (m - 1)).length := by simp; omega
        simp only [hmp, hms] at hdel
        have hVl : (U.take (m - 3) ++ U.drop (m - 1)).length + 2 = m := by simp; omega
        have hVb : Bd (U.take (m - 3) ++ U.drop (m - 1)) := fun z hz => by
          rcases List.mem_append.1 hz with hz | hz
          · exact hUb z (List.mem_of_mem_take hz)
          · exact hUb z (List.mem_of_mem_drop hz)
        generalize hV : U.take (m - 3) ++ U.drop (m - 1) = V' at *
        have hne : ¬ V' = [] := by intro e; rw [e] at hVl; simp at hVl; omega
        simp -dsimp [h3']
        repeat' (first | omega | (simp -dsimp [E75, ri, cellp, ints, h3', wk, hm, l1, l2, l3, e1, e2, e3, hu1, hu2, hu3, w1, w2, w3, dd1, dd2, dd3, hx, hy, hxy', hgo, hm3i, hdel, hne]) | (refine Also.intro ?_ fun _ => ?_) | (refine Hold.intro fun _ => ?_) | (refine And.intro ?_ ?_))
        refine ⟨{ pile := V', H := H', b := b + 1, c := c, d := d + 1, hl := by omega, hp := hVb, hf := ⟨hf1, hFH⟩, hb := by omega }, tle_chain rfl ?_, (by (try simp -dsimp only [hpush_noH, hpush_hps, hps_over]); refine hle_hpsb ?_; simp -dsimp [allK, ]; repeat' (first | (refine And.intro ?_ ?_) | (refine sLe.same ?_ ?_ <;> (simp; done)) | (refine sLe.clear ?_ ?_ <;> (first | (simp; done) | (simp; omega))) | (refine sLe.drop 1 ?_ ?_ ?_ <;> (simp; done)))), by simp only; omega⟩
        simp [okAll, okv]
  have hke : k = P.length := by omega
  subst hke
  rw [List.drop_length, cyc] at hfd hFH
  generalize hm : pile.length = m at *
  have hkn : ¬ (P.length : Int) < P.length := by omega
  simp -dsimp [hkn]
  repeat' (first | omega | (simp -dsimp [E75, ri, cellp, ints, hkn, hm]) | (refine Also.intro ?_ fun _ => ?_) | (refine Hold.intro fun _ => ?_) | (refine And.intro ?_ ?_))
  refine awp_loop [74, 75, 9, 76, 77, 78, 79, 80, 81, 82, 83, 84, 85, 86, 87, 88, 89, 90, 91, 92, 93, 73] (fun q : CntT Y FH pile => [(73, (true, .int .i64 (q.i : Nat)))])
    (fun q => hps [(7520, { base := b, blks := [{ z := 1, els := pile.map ri, ty := 3 }] }), (7559, { base := c, blks := [] }), (7832, { base := d, blks := [] })] q.H) (fun q => pile.length - q.i) { i := 0, H := H, hi := by omega, hf := by simpa using ⟨hfd, hFH⟩ } ?_ ?_ ?_
  · simp [okAll, okv]
  · exact (by (try simp -dsimp only [hpush_noH, hpush_hps, hps_over]); refine hle_hpsb ?_; simp -dsimp [allK, ]; repeat' (first | (refine And.intro ?_ ?_) | (refine sLe.same ?_ ?_ <;> (simp; done)) | (refine sLe.clear ?_ ?_ <;> (first | (simp; done) | (simp; omega))) | (refine sLe.drop 1 ?_ ?_ ?_ <;> (simp; done))))
  clear hfd hFH
  rintro ⟨i, H, hi, ⟨hfd, hFH⟩⟩
  simp only
  by_cases hi1 : i < m
  case neg =>
    have hie : i = m := by omega
    subst hie
    have hnil : (tailC pile).drop (i - 1) = [] := List.drop_eq_nil_of_le (by simp [tailC]; omega)
    rw [hnil] at hfd hFH
    have hFH' : H = FH := hFH
    subst hFH'
    have hle : HLe (hps [(7520, { base := b, blks := [{ z := 1, els := pile.map ri, ty := 3 }] }), (7559, { base := c, blks := [] }), (7832, { base := d, blks := [] })] H) (hps [(7520, { base := b1 + 1000000, blks := [] }), (7559, { base := b2 + 1000000, blks := [] }), (7832, { base := b3 + 1000000, blks := [] })] H) := (by (try simp -dsimp only [hpush_noH, hpush_hps, hps_over]); refine hle_hpsb ?_; simp -dsimp [allK, ]; repeat' (first | (refine And.intro ?_ ?_) | (refine sLe.same ?_ ?_ <;> (simp; done)) | (refine sLe.clear ?_ ?_ <;> (first | (simp; done) | (simp; omega))) | (refine sLe.drop 1 ?_ ?_ ?_ <;> (simp; done))))
    have hin : ¬ (i : Int) < i := by omega
    simp -dsimp [hin]
    repeat' (first | omega | (simp -dsimp [E75, ri, cellp, ints, hin, hm, hle]) | (refine Also.intro ?_ fun _ => ?_) | (refine Hold.intro fun _ => ?_) | (refine And.intro ?_ ?_))
  have hii : (i : Int) < m := by omega
  have wi : IntKind.wrap .i64 ((i : Int) + 1) = (i + 1 : Nat) := wrap_id (by omega) (by omega)
  by_cases hi0 : i = 0
  · subst hi0
    simp -dsimp [hii]
    repeat' (first | omega | (simp -dsimp [E75, ri, cellp, ints, hii, hi1, hm, wi]) | (refine Also.intro ?_ fun _ => ?_) | (refine Hold.intro fun _ => ?_) | (refine And.intro ?_ ?_))
    refine ⟨{ i := 1, H := H, hi := by omega, hf := ⟨by simpa using hfd, by simpa using hFH⟩ }, tle_chain rfl ?_, (by (try simp -dsimp only [hpush_noH, hpush_hps, hps_over]); refine hle_hpsb ?_; simp -dsimp [allK, ]; repeat' (first | (refine And.intro ?_ ?_) | (refine sLe.same ?_ ?_ <;> (simp; done)) | (refine sLe.clear ?_ ?_ <;> (first | (simp; done) | (simp; omega))) | (refine sLe.drop 1 ?_ ?_ ?_ <;> (simp; done)))), by simp only; omega⟩
    simp [okAll, okv]
    exact wrap_id (by omega) (by omega)
  have hip : 0 < i := by omega
  have l1 : i < pile.length := by omega
  have l2 : i - 1 < pile.length := by omega
  have e1 : pile[i]? = some pile[i] := List.getElem?_eq_getElem l1
  have e2 : pile[i - 1]? = some pile[i - 1] := List.getElem?_eq_getElem l2
  have g1 : pile.getD i 0 = pile[i] := by simp [List.getD, e1]
  have g2 : pile.getD (i - 1) 0 = pile[i - 1] := by simp [List.getD, e2]
  have d1 := hpb _ (List.getElem_mem l1)
  have d2 := hpb _ (List.getElem_mem l2)
  have w1 : IntKind.wrap .i64 ((i : Int) - 1) = (i - 1 : Nat) := by rw [wrap_id (by omega) (by omega)]; omega
  have htd := tailC_drop (pile := pile) (i := i - 1) (by omega)
  rw [show i - 1 + 1 = i by omega, g1, g2] at htd
  generalize hu1 : pile[i] = u1 at *
  generalize hu2 : pile[i - 1] = u2 at *
  have dd1 : ((-4000000000000 : Int) ≤ u1 ∧ u1 ≤ 4000000000000) := by omega
  have dd2 : ((-4000000000000 : Int) ≤ u2 ∧ u2 ≤ 4000000000000) := by omega
  generalize hx : dist u1 u2 = x at *
  rw [htd] at hfd hFH
  simp only [List.map_cons, cycV] at hfd hFH
  obtain ⟨hc, bb, hv, ht, hf⟩ := feed_step hfd
  have hgo : ∀ S1 S2 S3, Y.go [.int .i64 x, .int .i64 1] (hps [(7520, S1), (7559, S2), (7832, S3)] H) = ⟨True, .bool bb, hps [(7520, S1), (7559, S2), (7832, S3)] (Y.go [.int .i64 x, .int .i64 1] H).h⟩ := fun S1 S2 S3 => hloc.go hc hv [(7520, S1), (7559, S2), (7832, S3)]
  cases bb with
  | false =>
    rw [hf rfl] at hFH
    generalize (Y.go [.int .i64 x, .int .i64 1] H).h = H' at *
    subst hFH
    have hle : HLe (hps [(7520, { base := b, blks := [{ z := 1, els := pile.map ri, ty := 3 }] }), (7559, { base := c, blks := [] }), (7832, { base := d, blks := [] })] H') (hps [(7520, { base := b1 + 1000000, blks := [] }), (7559, { base := b2 + 1000000, blks := [] }), (7832, { base := b3 + 1000000, blks := [] })] H') := (by (try simp -dsimp only [hpush_noH, hpush_hps, hps_over]); refine hle_hpsb ?_; simp -dsimp [allK, ]; repeat' (first | (refine And.intro ?_ ?_) | (refine sLe.same ?_ ?_ <;> (simp; done)) | (refine sLe.clear ?_ ?_ <;> (first | (simp; done) | (simp; omega))) | (refine sLe.drop 1 ?_ ?_ ?_ <;> (simp; done))))
    simp -dsimp [hii]
    repeat' (first | omega | (simp -dsimp [E75, ri, cellp, ints, hii, hm, hip, l1, l2, e1, e2, hu1, hu2, w1, dd1, dd2, hx, hgo, hle]) | (refine Also.intro ?_ fun _ => ?_) | (refine Hold.intro fun _ => ?_) | (refine And.intro ?_ ?_))
  | true =>
    obtain ⟨hf1, hf2⟩ := ht rfl
    rw [hf2] at hFH
    generalize (Y.go [.int .i64 x, .int .i64 1] H).h = H' at *
    simp -dsimp [hii]
    repeat' (first | omega | (simp -dsimp [E75, ri, cellp, ints, hii, hm, hip, l1, l2, e1, e2, hu1, hu2, w1, wi, dd1, dd2, hx, hgo]) | (refine Also.intro ?_ fun _ => ?_) | (refine Hold.intro fun _ => ?_) | (refine And.intro ?_ ?_))
    refine ⟨{ i := i + 1, H := H', hi := by omega, hf := ⟨hf1, hFH⟩ }, tle_chain rfl ?_, (by (try simp -dsimp only [hpush_noH, hpush_hps, hps_over]); refine hle_hpsb ?_; simp -dsimp [allK, ]; repeat' (first | (refine And.intro ?_ ?_) | (refine sLe.same ?_ ?_ <;> (simp; done)) | (refine sLe.clear ?_ ?_ <;> (first | (simp; done) | (simp; omega))) | (refine sLe.drop 1 ?_ ?_ ?_ <;> (simp; done)))), by simp only; omega⟩
    simp [okAll, okv]
theorem ok75 : FnOK Tryd.prog 75 (.iter cntS) := iter_fn (E := E75) rfl (.cons ok76 (.cons ok77 (.cons ok78 .nil))) (ok := []) (fn := Tryd.f75) (by kernel_rfl) (by kernel_rfl) (by kernel_rfl) (fun _ _ => by kernel_rfl) rfl (fun l Y args h hc => by obtain ⟨_, _, _, rfl, _⟩ := cnt_inv hc; simp) kp81 b75
end Go.Sx
end
section
/- Parts: count, Cycles. No conditions. -/
set_option linter.unusedSimpArgs false
set_option maxRecDepth 100000
set_option maxHeartbeats 1000000
namespace Go.Sx
open Go.Proofs
attribute [local irreducible] awp

def countS : HSpec where
  go args h := match args with
    | [.sl z els] => ⟨True, .fn 75 [.bptr 5201 (hnext h 5201) 1 0 0], hpush h 5201 { z := 1, els := [[.sl z els]], ty := 36 }⟩
    | _ => ⟨False, .top, h⟩
noncomputable abbrev E52 : Env := { P := Tryd.prog, fn := tbl [], own := [], key := 5200, nt := 4 }
theorem b52 : HeapBody E52 [] Tryd.f52 countS := by
  intro args h hc
  match args, hc with
  | [.sl z els], hc =>
    have hn := hget_push_new h 5201 { z := 1, els := [[.sl z els]], ty := 36 }
    simp -dsimp [Tryd.f52, E52, countS]
    repeat' (first | omega | (simp -dsimp [E52, ri, cellp, ints, hn]) | (refine Also.intro ?_ fun _ => ?_) | (refine Hold.intro fun _ => ?_) | (refine And.intro ?_ ?_))
theorem ok52 : FnOK Tryd.prog 52 (.heap countS) := heap_fn (E := E52) rfl LOK.nil (ok := []) (fn := Tryd.f52) (by kernel_rfl) (by kernel_rfl) (by kernel_rfl) (by kernel_rfl) rfl (fun args h hc => by match args, hc with | [.sl z els], hc => simp) b52

/-- What Cycles has so far. -/
def outV (s : List (Int × Int)) : V := match s with | [] => .nil | _ => .bsl 2221 0 s.length
def outC (s : List (Int × Int)) : List (Nat × Site) := match s with
  | [] => [(2202, { base := 0, blks := [{ z := 1, els := [[.nil]], ty := 45 }] }), (2221, { base := 0, blks := [] })]
  | s => [(2202, { base := 0, blks := [{ z := 1, els := [[.bsl 2221 0 s.length]], ty := 45, cl := false }] }), (2221, { base := 0, blks := [{ z := 2, els := s.map cycV, ty := 55 }] })]
theorem outC_keys (s : List (Int × Int)) : (outC s).map (·.1) = [2202, 2221] := by cases s <;> rfl
theorem cycV_inj {a b : List (Int × Int)} (h : a.map cycV = b.map cycV) : a = b := by
  induction a generalizing b with
  | nil => cases b with
    | nil => rfl
    | cons => simp at h
  | cons x a ih =>
    cases b with
    | nil => simp at h
    | cons y b =>
      simp only [List.map_cons, List.cons.injEq, cycV, V.int.injEq, true_and, and_true] at h
      rw [ih h.2, Prod.ext h.1.1 h.1.2]
theorem outC_inj (s s' : List (Int × Int)) (h : ∀ k ∈ [2202, 2221], hps (outC s) noH k = hps (outC s') noH k) : s = s' := by
  have h2 := h 2221 (by simp)
  cases s with
  | nil =>
    cases s' with
    | nil => rfl
    | cons y s' => simp [outC, hps] at h2
  | cons x s =>
    cases s' with
    | nil => simp [outC, hps] at h2
    | cons y s' =>
      simp only [outC, hps] at h2
      simp at h2
      have : (x :: s).map cycV = (y :: s').map cycV := by simp [h2]
      exact cycV_inj this
def cycOf (x : List V) : Int × Int := ((x.getD 0 .top).toInt, (x.getD 1 .top).toInt)
theorem cycOf_V (p : Int × Int) : cycOf (cycV p) = p := rfl
abbrev cycPre (s : List (Int × Int)) (x : List V) : Prop := (∃ p, x = cycV p) ∧ s.length ≤ 1000000
theorem cyc_run : ∀ (c s : List (Int × Int)), s.length + c.length ≤ 1000000 → (runS cycPre (fun _ _ => true) (fun s x => s ++ [cycOf x]) s (c.map cycV)).1 ∧ (runS cycPre (fun _ _ => true) (fun s x => s ++ [cycOf x]) s (c.map cycV)).2 = (true, s ++ c)
  | [], s, _ => ⟨trivial, by simp [runS]⟩
  | p :: c, s, h => by
    simp only [List.length_cons] at h
    obtain ⟨h1, h2⟩ := cyc_run c (s ++ [p]) (by simp; omega)
    simp only [List.map_cons, runS, cycOf_V]
    exact ⟨⟨⟨⟨p, rfl⟩, by omega⟩, h1⟩, by rw [h2]; simp⟩
abbrev CyclesS : PSpec := { dom := List Int, enc := fun d => [ints d], dec := fun l => (l.getD 0 .top).toInts, pre := fun d => d.length ≤ 9223372036854775807, res := fun d => .tup [.sl 2 ((if serE d = 0 then cycles d else []).map cycV), .int .i64 (serE d)] }
noncomputable abbrev E22 : Env := { P := Tryd.prog, fn := tbl [(51, .pure serS), (52, .heap countS), (75, .iter cntS)], own := [], key := 2200, nt := 23 }
theorem b22 : PureBody E22 [] Tryd.f22 CyclesS := by
  refine pb ?_
  rintro L hL
  by_cases h0 : serE L = 0
  case neg =>
    simp -dsimp [Tryd.f22, E22, h0]
    repeat' (first | omega | (simp -dsimp [E22, ri, cellp, ints, hL, h0]) | (refine Also.intro ?_ fun _ => ?_) | (refine Hold.intro fun _ => ?_) | (refine And.intro ?_ ?_))
  have hcnt : ∀ H, countS.go [.sl 1 (L.map ri)] H = ⟨True, .fn 75 [.bptr 5201 (hnext H 5201) 1 0 0], hpush H 5201 { z := 1, els := [[.sl 1 (L.map ri)]], ty := 36 }⟩ := fun _ => rfl
  simp -dsimp [Tryd.f22, E22, h0]
  repeat' (first | omega | (simp -dsimp [E22, ri, cellp, ints, hL, h0, hcnt]) | (refine Also.intro ?_ fun _ => ?_) | (refine Hold.intro fun _ => ?_) | (refine And.intro ?_ ?_))
  have hser : L.length ≤ 300 ∧ allB L (-1000000) 1000000 = true := by
    unfold serE at h0
    split at h0
    · cases h0
    · split at h0
      · exact ⟨by omega, by assumption⟩
      · cases h0
  have hbd : Bd L := by
    intro x hx
    have := List.all_eq_true.1 hser.2 x hx
    simp [withinB] at this; omega
  have hcl := cycles_len L
  obtain ⟨hr1, hr2⟩ := cyc_run (cycles L) [] (by simp; omega)
  refine awp_range (LC := outC) (keys := [2202, 2221]) (pre := cycPre) (go := fun _ _ => true) (nxt := fun s x => s ++ [cycOf x]) outC_inj outC_keys [] .normal ((cycles L).map cycV) (own := [7520, 7559, 7832]) (ro := [5201]) (dec := cntDec) rfl (by simp; rfl) rfl (by decide) (by decide) (by decide) ⟨rfl, rfl⟩ ?_ ?_ ?_ hr1 ?_ ?_ ?_
  · intro k hk
    simp at hk
    rcases hk with rfl | rfl <;> rfl
  · intro k hk
    simp at hk
    rcases hk with rfl | rfl | rfl <;> rfl
  · refine ⟨⟨⟨rfl, rfl, rfl, rfl⟩, rfl, L, rfl, by omega, hbd⟩, ?_⟩
    simp [cntDec]
  · rintro s x hb ⟨⟨p, rfl⟩, hs⟩ hy1 hy2
    refine ⟨rfl, ?_⟩
    rw [cycOf_V]
    obtain ⟨p1, p2⟩ := p
    cases s with
    | nil =>
      have hle : HLe (hps [(2202, { base := 0, blks := [{ z := 1, els := [[V.bsl 2221 0 1]], ty := 45, cl := false }] }), (2221, { base := 0, blks := [{ z := 2, els := [[V.int IntKind.i64 p1, V.int IntKind.i64 p2]], ty := 55 }] }), (2202, { base := 0, blks := [{ z := 1, els := [[.nil]], ty := 45 }] }), (2221, { base := 0, blks := [] })] hb) (hps [(2202, { base := 0, blks := [{ z := 1, els := [[V.bsl 2221 0 1]], ty := 45, cl := false }] }), (2221, { base := 0, blks := [{ z := 2, els := [[V.int IntKind.i64 p1, V.int IntKind.i64 p2]], ty := 55 }] })] hb) := (by (try simp -dsimp only [hpush_noH, hpush_hps, hps_over]); refine hle_hpsb ?_; simp -dsimp [allK, ]; repeat' (first | (refine And.intro ?_ ?_) | (refine sLe.same ?_ ?_ <;> (simp; done)) | (refine sLe.clear ?_ ?_ <;> (first | (simp; done) | (simp; omega))) | (refine sLe.drop 1 ?_ ?_ ?_ <;> (simp; done))))
      simp -dsimp [E22, setT, cycV, outC]
      repeat' (first | omega | (simp -dsimp [E22, ri, cellp, ints, cycV, hle]) | (refine Also.intro ?_ fun _ => ?_) | (refine Hold.intro fun _ => ?_) | (refine And.intro ?_ ?_))
    | cons y s =>
      have hb16 : (s.length + 1 + 1) * 16 ≤ 140737488355328 := by simp at hs; omega
      have hle : HLe (hps [(2202, { base := 0, blks := [{ z := 1, els := [[V.bsl 2221 0 (s.length + 1 + 1)]], ty := 45, cl := false }] }), (2221, { base := 0, blks := [{ z := 2, els := [V.int IntKind.i64 y.1, V.int IntKind.i64 y.2] :: (s.map cycV ++ [[V.int IntKind.i64 p1, V.int IntKind.i64 p2]]), ty := 55 }] }), (2202, { base := 0, blks := [{ z := 1, els := [[V.bsl 2221 0 (s.length + 1)]], ty := 45, cl := false }] }), (2221, { base := 0, blks := [{ z := 2, els := [V.int IntKind.i64 y.1, V.int IntKind.i64 y.2] :: s.map cycV, ty := 55 }] })] hb) (hps [(2202, { base := 0, blks := [{ z := 1, els := [[V.bsl 2221 0 (s.length + 1 + 1)]], ty := 45, cl := false }] }), (2221, { base := 0, blks := [{ z := 2, els := [V.int IntKind.i64 y.1, V.int IntKind.i64 y.2] :: (s.map cycV ++ [[V.int IntKind.i64 p1, V.int IntKind.i64 p2]]), ty := 55 }] })] hb) := (by (try simp -dsimp only [hpush_noH, hpush_hps, hps_over]); refine hle_hpsb ?_; simp -dsimp [allK, ]; repeat' (first | (refine And.intro ?_ ?_) | (refine sLe.same ?_ ?_ <;> (simp; done)) | (refine sLe.clear ?_ ?_ <;> (first | (simp; done) | (simp; omega))) | (refine sLe.drop 1 ?_ ?_ ?_ <;> (simp; done))))
      simp -dsimp [E22, setT, cycV, outC]
      repeat' (first | omega | (simp -dsimp [E22, ri, cellp, ints, cycV, hb16, hle]) | (refine Also.intro ?_ fun _ => ?_) | (refine Hold.intro fun _ => ?_) | (refine And.intro ?_ ?_))
  · intro _
    rw [hr2]
    simp only [List.nil_append]
    cases hC : cycles L with
    | nil =>
      simp -dsimp [outC, hps_app]
      repeat' (first | omega | (simp -dsimp [E22, ri, cellp, ints, outC, hC]) | (refine Also.intro ?_ fun _ => ?_) | (refine Hold.intro fun _ => ?_) | (refine And.intro ?_ ?_))
    | cons y s =>
      simp -dsimp [outC, hps_app]
      repeat' (first | omega | (simp -dsimp [E22, ri, cellp, ints, outC, hC]) | (refine Also.intro ?_ fun _ => ?_) | (refine Hold.intro fun _ => ?_) | (refine And.intro ?_ ?_))
  · intro h
    rw [hr2] at h; cases h
theorem ok22 : FnOK Tryd.prog 22 (.pure CyclesS) := pure_fn (E := E22) rfl (.cons ok51 (.cons ok52 (.cons ok75 .nil))) (ok := []) (fn := Tryd.f22) (by kernel_rfl) (by kernel_rfl) (by kernel_rfl) (by kernel_rfl) rfl (fun _ _ => by simp) b22
end Go.Sx
end
section
/- Parts: turning points as the reference finds them, in plain Lean. No conditions. -/
set_option linter.unusedSimpArgs false
namespace Go.Sx

/-- Without loads that are equal to the one before. -/
def dd (l : List Int) : Nat → List Int
  | 0 => []
  | k + 1 => if k = 0 ∨ l.getD k 0 ≠ l.getD (k - 1) 0 then dd l k ++ [l.getD k 0] else dd l k
def tt (p : List Int) : Nat → List Int
  | 0 => []
  | k + 1 => if k = 0 ∨ k + 1 = p.length ∨ decide (p.getD (k - 1) 0 < p.getD k 0) ≠ decide (p.getD k 0 < p.getD (k + 1) 0) then tt p k ++ [p.getD k 0] else tt p k
theorem dd_len (l : List Int) : ∀ k, (dd l k).length ≤ k
  | 0 => by simp [dd]
  | k + 1 => by
    have := dd_len l k
    rw [dd]
    split
    · simp; omega
    · omega
theorem tt_len (l : List Int) : ∀ k, (tt l k).length ≤ k
  | 0 => by simp [tt]
  | k + 1 => by
    have := tt_len l k
    rw [tt]
    split
    · simp; omega
    · omega
theorem getD_snoc {d : List Int} {x : Int} {i : Nat} (h : i < d.length) : (d ++ [x]).getD i 0 = d.getD i 0 := by
  simp only [List.getD, List.getElem?_append_left h]
theorem getD_end {d : List Int} {x : Int} : (d ++ [x]).getD d.length 0 = x := by
  simp [List.getD]
theorem tt_snoc (d : List Int) (x : Int) : ∀ k, k + 1 ≤ d.length → tt (d ++ [x]) k = tt d k
  | 0, _ => rfl
  | k + 1, h => by
    rw [tt, tt, tt_snoc d x k (by omega), getD_snoc (by omega), getD_snoc (by omega), getD_snoc (by omega)]
    have e1 : (k + 1 = (d ++ [x]).length) = False := eq_false (by simp; omega)
    have e2 : (k + 1 = d.length) = False := eq_false (by omega)
    simp only [e1, e2]
theorem tt_last (d : List Int) (h : 0 < d.length) : tt d d.length = tt d (d.length - 1) ++ [d.getD (d.length - 1) 0] := by
  obtain ⟨n, hn⟩ : ∃ n, d.length = n + 1 := ⟨d.length - 1, by omega⟩
  rw [hn, tt, if_pos (.inr (.inl hn.symm))]
  rfl
theorem tpush_snoc (c : List Int) (y x : Int) (h : y ≠ x) : tpush (c ++ [y]) x = if c ≠ [] ∧ decide (c.getD (c.length - 1) 0 < y) = decide (y < x) then c ++ [x] else c ++ [y, x] := by
  unfold tpush
  have hl : (c ++ [y]).length = c.length + 1 := by simp
  rw [hl, Nat.add_sub_cancel, getD_end]
  rw [if_neg (fun hh => h hh.2)]
  by_cases hc : c = []
  · subst hc
    simp
  · have hp := List.length_pos_iff.2 hc
    have e : c.length + 1 - 2 = c.length - 1 := by omega
    rw [e, getD_snoc (by omega)]
    by_cases hd : decide (c.getD (c.length - 1) 0 < y) = decide (y < x)
    · rw [if_pos ⟨by omega, hd⟩, if_pos ⟨hc, hd⟩]
      rw [List.set_append_right _ _ (Nat.le_refl _)]
      simp
    · rw [if_neg (fun hh => hd hh.2), if_neg (fun hh => hd hh.2)]
      simp
theorem turning_at (l : List Int) : ∀ k, k ≤ l.length → (0 < k → 0 < (dd l k).length ∧ (dd l k).getD ((dd l k).length - 1) 0 = l.getD (k - 1) 0) ∧
    turn (l.take k) = tt (dd l k) (dd l k).length ∧
    (2 ≤ (dd l k).length → tt (dd l k) ((dd l k).length - 1) ≠ [] ∧ decide ((tt (dd l k) ((dd l k).length - 1)).getD ((tt (dd l k) ((dd l k).length - 1)).length - 1) 0 < (dd l k).getD ((dd l k).length - 1) 0) = decide ((dd l k).getD ((dd l k).length - 2) 0 < (dd l k).getD ((dd l k).length - 1) 0))
  | 0, _ => by simp [dd, tt, turn]
  | k + 1, h => by
    obtain ⟨h1, h2, h3⟩ := turning_at l k (by omega)
    have hT := turn_take l (k := k) (by omega)
    have hg : l.getD k 0 = l[k] := by simp [List.getD, List.getElem?_eq_getElem (show k < l.length by omega)]
    rw [← hg] at hT
    rw [hT, h2, dd]
    by_cases hk0 : k = 0
    · subst hk0
      simp [dd, tt, tpush]
    obtain ⟨hp, hl⟩ := h1 (by omega)
    rw [Nat.add_sub_cancel]
    generalize hx : l.getD k 0 = x at *
    rw [← hl] 
    generalize hd : dd l k = d at *
    rw [tt_last d hp]
    generalize hy : d.getD (d.length - 1) 0 = y at *
    by_cases hxy : x = y
    · rw [if_neg (fun hh => by rcases hh with hh | hh; exact hk0 hh; exact hh hxy)]
      subst hxy
      refine ⟨fun _ => ⟨hp, hy⟩, ?_, ?_⟩
      · unfold tpush
        rw [List.length_append, List.length_singleton, Nat.add_sub_cancel, getD_end, if_pos ⟨by omega, rfl⟩, tt_last d hp, hy]
      · rw [hy]; exact h3
    rw [if_pos (.inr hxy)]
    have hl1 : (d ++ [x]).length = d.length + 1 := by simp
    have e1 : tt (d ++ [x]) d.length = if d.length = 1 ∨ decide (d.getD (d.length - 2) 0 < y) ≠ decide (y < x) then tt d (d.length - 1) ++ [y] else tt d (d.length - 1) := by
      obtain ⟨n, hn⟩ : ∃ n, d.length = n + 1 := ⟨d.length - 1, by omega⟩
      rw [hn, tt, tt_snoc d x n (by omega), getD_snoc (by omega), getD_snoc (by omega)]
      have e2 : (d ++ [x]).getD (n + 1) 0 = x := by rw [← hn]; exact getD_end
      have e3 : d.getD n 0 = y := by rw [← hy, hn]; rfl
      have e4 : (n + 1 = (d ++ [x]).length) = False := eq_false (by omega)
      rw [e2, e3]
      simp only [e4, false_or, Nat.add_sub_cancel, show n + 1 - 2 = n - 1 by omega, show (n + 1 = 1) = (n = 0) by simp]
    have e0 : tt (d ++ [x]) (d.length + 1) = tt (d ++ [x]) d.length ++ [x] := by
      have := tt_last (d ++ [x]) (by omega)
      rw [hl1, Nat.add_sub_cancel, getD_end] at this
      exact this
    rw [hl1, e0, Nat.add_sub_cancel, getD_end, tpush_snoc _ _ _ (fun hh => hxy hh.symm), e1]
    refine ⟨fun _ => ⟨by omega, rfl⟩, ?_, ?_⟩
    · by_cases hn1 : d.length = 1
      · have ht : tt d (d.length - 1) = [] := by rw [hn1]; rfl
        rw [ht, if_neg (fun hh => hh.1 rfl), if_pos (.inl hn1)]
        rfl
      · obtain ⟨k1, k2⟩ := h3 (by omega)
        by_cases hc : decide (d.getD (d.length - 2) 0 < y) = decide (y < x)
        · rw [if_pos ⟨k1, by rw [k2, hc]⟩, if_neg (fun hh => by rcases hh with hh | hh; exact hn1 hh; exact hh hc)]
        · rw [if_neg (fun hh => hc (by rw [← k2, hh.2])), if_pos (.inr hc)]
          simp
    · intro _
      have e5 : (d ++ [x]).getD (d.length + 1 - 2) 0 = y := by rw [getD_snoc (by omega), ← hy]; rfl
      rw [e5]
      by_cases hn1 : d.length = 1 ∨ decide (d.getD (d.length - 2) 0 < y) ≠ decide (y < x)
      · rw [if_pos hn1]
        refine ⟨by simp, ?_⟩
        rw [List.length_append, List.length_singleton, Nat.add_sub_cancel, getD_end]
      · rw [if_neg hn1]
        simp only [not_or, Classical.not_not, ne_eq] at hn1
        obtain ⟨k1, k2⟩ := h3 (by omega)
        refine ⟨k1, ?_⟩
        rw [hn1.2] at k2
        generalize (tt d (d.length - 1)).getD ((tt d (d.length - 1)).length - 1) 0 = c at *
        have : (c < y) ↔ (y < x) := by simpa using k2
        simp only [decide_eq_decide]
        omega
theorem turn_tt (l : List Int) : turn l = tt (dd l l.length) (dd l l.length).length := by
  have := (turning_at l l.length (Nat.le_refl _)).2.1
  rwa [List.take_length] at this
end Go.Sx
end
section
/- Parts: the reference's turning points; same lists. No conditions. -/
set_option linter.unusedSimpArgs false
set_option maxRecDepth 100000
set_option maxHeartbeats 1000000
namespace Go.Sx
open Go.Proofs
attribute [local irreducible] awp

abbrev sameS : PSpec := { dom := List Int × List Int, enc := fun d => [ints d.1, ints d.2], dec := fun l => ((l.getD 0 .top).toInts, (l.getD 1 .top).toInts), pre := fun d => d.1.length ≤ 9223372036854775807 ∧ d.2.length ≤ 9223372036854775807, res := fun d => .bool (decide (d.1 = d.2)) }
def prs (l : List (Int × Int)) : V := .sl 2 (l.map cycV)
def _root_.Go.Sx.V.toPrs (v : V) : List (Int × Int) := v.rows.map cycOf
@[simp] theorem toPrs_prs (l : List (Int × Int)) : (prs l).toPrs = l := by
  simp only [prs, V.toPrs, V.rows, List.map_map]
  exact (List.map_congr_left (fun p _ => cycOf_V p)).trans (List.map_id l)
abbrev samePS : PSpec := { dom := List (Int × Int) × List (Int × Int), enc := fun d => [prs d.1, prs d.2], dec := fun l => ((l.getD 0 .top).toPrs, (l.getD 1 .top).toPrs), pre := fun d => d.1.length ≤ 9223372036854775807 ∧ d.2.length ≤ 9223372036854775807, res := fun d => .bool (decide (d.1 = d.2)) }
noncomputable abbrev E23 : Env := { P := Tryd.prog, fn := tbl [], own := [], key := 2300, nt := 26 }
theorem b23 : PureBody E23 [] Tryd.f23 samePS := by
  refine pb ?_
  rintro ⟨a, b⟩ ⟨p1, p2⟩
  simp only at p1 p2
  by_cases hl : a.length = b.length
  case neg =>
    have hne : ¬ a = b := fun e => hl (by rw [e])
    have hl' : ¬ (a.length : Int) = b.length := by omega
    simp -dsimp [Tryd.f23, E23, prs, hl']
    repeat' (first | omega | (simp -dsimp [E23, ri, cellp, ints, hl', hne]) | (refine Also.intro ?_ fun _ => ?_) | (refine Hold.intro fun _ => ?_) | (refine And.intro ?_ ?_))
  have hl' : (a.length : Int) = b.length := by omega
  simp -dsimp [Tryd.f23, E23, prs, hl']
  refine awp_loop [11, 12, 13, 14, 17, 18, 19, 20, 21, 22, 23, 24, 25, 4, 15, 16, 5]
    (fun k : { k : Nat // k ≤ a.length ∧ ∀ i (h1 : i < a.length) (h2 : i < b.length), i < k → a[i] = b[i] } => [(5, (true, .int .i64 (k.1 : Nat)))])
    (fun k => noH) (fun k => a.length - k.1) ⟨0, by omega, fun _ _ _ h => by omega⟩ ?_ (HLe.refl _) ?_
  · simp [okAll, okv]
  rintro ⟨k, hk, he⟩
  simp only
  by_cases hk1 : k < a.length
  · have hk2 : k < b.length := by omega
    have w1 : IntKind.wrap .i64 ((k : Int) + 1) = (k + 1 : Nat) := wrap_id (by omega) (by omega)
    by_cases hx : a[k] = b[k]
    · simp -dsimp [hk1, hk2, hx, cycV]
      repeat' (first | omega | (simp -dsimp [E23, ri, cellp, ints, hk1, hk2, hx, w1, cycV]) | (refine Also.intro ?_ fun _ => ?_) | (refine Hold.intro fun _ => ?_) | (refine And.intro ?_ ?_))
      refine ⟨k + 1, tle_chain rfl ?_, HLe.refl _, ⟨hk1, fun i h1 h2 hi => ?_⟩, by omega⟩
      · simp [okAll, okv]
      · by_cases e : i = k
        · subst e; exact hx
        · exact he i h1 h2 (by omega)
    · have hne : ¬ a = b := fun e => hx (by simp [e])
      have hx2 : ((a[k].1 == b[k].1) && (a[k].2 == b[k].2)) = false := by
        cases h : ((a[k].1 == b[k].1) && (a[k].2 == b[k].2)) with
        | false => rfl
        | true =>
          simp only [Bool.and_eq_true, beq_iff_eq] at h
          exact absurd (Prod.ext h.1 h.2) hx
      simp -dsimp [hk1, hk2, hx2, cycV]
      repeat' (first | omega | (simp -dsimp [E23, ri, cellp, ints, hk1, hk2, hx2, w1, hne, cycV]) | (refine Also.intro ?_ fun _ => ?_) | (refine Hold.intro fun _ => ?_) | (refine And.intro ?_ ?_))
  · have hkb : ¬ k < b.length := by omega
    have heq : a = b := List.ext_getElem hl fun i h1 h2 => he i h1 h2 (by omega)
    simp -dsimp [hk1, hkb]
    repeat' (first | omega | (simp -dsimp [E23, ri, cellp, ints, hk1, hkb, heq]) | (refine Also.intro ?_ fun _ => ?_) | (refine Hold.intro fun _ => ?_) | (refine And.intro ?_ ?_))
theorem ok23 : FnOK Tryd.prog 23 (.pure samePS) := pure_fn (E := E23) rfl LOK.nil (ok := []) (fn := Tryd.f23) (by kernel_rfl) (by kernel_rfl) (by kernel_rfl) (by kernel_rfl) rfl (fun _ _ => by simp) b23
end Go.Sx
end
