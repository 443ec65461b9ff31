/- A part of a proof; no conditions. -/
import Derived.Test.YtcbcajnkdknkdaaDoorP13
set_option linter.unusedSimpArgs false
set_option linter.unusedVariables false
set_option linter.unusedSectionVars false
section
/- Parts: the planner's search. No conditions. -/
set_option linter.unusedSimpArgs false
set_option linter.unusedSectionVars false
set_option maxRecDepth 100000
set_option maxHeartbeats 4000000
namespace Go.Sx
open Go.Proofs
attribute [local irreducible] HLe
attribute [local simp] hps_app

theorem look_prune {s : PL} {c : Int} (h : s.pruned c = true) (f n : Nat) : look f s n c = s := by
  cases f <;> simp only [look] <;> rw [if_pos h]
theorem lookTo_succ (g : PL → Nat → Int → PL) (s : PL) (n : Nat) (c : Int) (i : Nat) : lookTo g s n c (i + 1) = if (lookTo g s n c i).sp.getD i 0 < (lookTo g s n c i).fl.getD n 0 then lookTo g s n c i else
    { g ((lookTo g s n c i).put n i) (n + 1) ((lookTo g s n c i).more n i c) with sp := (g ((lookTo g s n c i).put n i) (n + 1) ((lookTo g s n c i).more n i c)).sp.set i ((lookTo g s n c i).sp.getD i 0) } := rfl
noncomputable abbrev E77 (M : Nat) : Env := { P := Tryd.prog, fn := tbl [(77, .heap (lookS M))], own := [500036], key := 7700, nt := 100 }
theorem b77 (M : Nat) : HeapBody (E77 M) [] Tryd.f77 (lookS (M + 1)) := by
  intro args h hc
  obtain ⟨s, ⟨n, c⟩, hh, rfl, hP, hgo⟩ := obS_inv plL_keys hc
  rw [hgo]
  clear hgo hc
  obtain ⟨h0, rfl⟩ : ∃ h0, h = Ob plL s h0 := ⟨h, hh⟩
  clear hh
  obtain ⟨p1, p2, p3, p4, p5⟩ := hP
  simp only at p1 p2 p3 p4 p5
  rcases hb : s.best with _ | _ | ⟨x, xs⟩
  · have hbv : bestV s.bi s.best = .nil := by rw [hb]; rfl
    have hbb : bestB s.best = ([] : List Blk) := by rw [hb]; rfl
    have hpr : s.pruned c = false := by simp [PL.pruned, hb]
    have hch : True := trivial
    by_cases hn : n = s.fl.length
    · have hl : look (s.fl.length - n) s n c = s.leaf n c := by rw [hn, Nat.sub_self]; simp only [look]; rw [← hn, hpr]; simp
      have htk : s.nw.take n = s.nw := List.take_of_length_le (by omega)
      have hni : (n : Int) = s.fl.length := by omega
      rw [hl]
      have hpost : Ob plL (s.leaf n c) (Ob plL s h0) = hps [(4225, { base := 0, blks := [{ z := 3, els := [[.sl 1 (s.fl.map ri), bestV (s.bi + (bestB s.best).length) (some s.nw), .int .i64 c]], ty := 128, cl := s.cl && s.nw.isEmpty }] }),
         (7805, { base := 0, blks := [{ z := 1, els := s.sp.map ri, ty := 3 }] }), (4231, { base := 0, blks := [{ z := 1, els := s.nw.map ri, ty := 3 }] }), (7738, { base := s.bi + (bestB s.best).length, blks := bestB (some s.nw) })] h0 := by
        rw [p_p, PL.leaf, htk]; rfl
      have hpre : Ob plL s h0 = hps [(4225, { base := 0, blks := [{ z := 3, els := [[.sl 1 (s.fl.map ri), .nil, .int .i64 s.ch]], ty := 128, cl := s.cl }] }),
         (7805, { base := 0, blks := [{ z := 1, els := s.sp.map ri, ty := 3 }] }), (4231, { base := 0, blks := [{ z := 1, els := s.nw.map ri, ty := 3 }] }), (7738, { base := s.bi, blks := ([] : List Blk) })] h0 := by simp only [Ob, plL, hbv, hbb]
      rw [hpost, hpre, hbb]
      have hb8 : s.nw.length * 8 ≤ 140737488355328 := by omega
      have hnn : n = s.nw.length := by omega
      clear hpost hpre hl htk
      rcases hnw : s.nw with _ | ⟨y, ys⟩
      · rw [hnw] at hb8 hnn
        simp only [List.length_nil] at hb8 hnn
        have htk2 : ([] : List (List V)).take n = [] := List.take_nil
        simp -dsimp [Tryd.f77, E77]
        repeat' (first | omega | (simp -dsimp [E77, ri, cellp, ints, hbv, hch, hni, htk2, bestV, bestB]) | (refine Also.intro ?_ fun _ => ?_) | (refine Hold.intro fun _ => ?_) | (refine And.intro ?_ ?_))
        all_goals exact (by (try simp -dsimp only [hpush_noH, hpush_hps, hps_over]); refine hle_hpsb ?_; simp -dsimp [allK, bestB, bestV, hbv]; repeat' (first | (refine And.intro ?_ ?_) | (refine sLe.same ?_ ?_ <;> (simp; done)) | (refine sLe.clear ?_ ?_ <;> (first | (simp; done) | (simp; omega))) | (refine sLe.drop 1 ?_ ?_ ?_ <;> (simp; done))))
      · rw [hnw] at hb8 hnn
        simp only [List.length_cons] at hb8 hnn
        have htk2 : ([V.int .i64 y] :: List.map ri ys).take n = [V.int .i64 y] :: List.map ri ys := List.take_of_length_le (by simp; omega)
        have hle : n ≤ ys.length + 1 := by omega
        simp -dsimp [Tryd.f77, E77]
        repeat' (first | omega | (simp -dsimp [E77, ri, cellp, ints, hbv, hch, hni, htk2, hle, hb8, bestV, bestB, ri]) | (refine Also.intro ?_ fun _ => ?_) | (refine Hold.intro fun _ => ?_) | (refine And.intro ?_ ?_))
        all_goals exact (by (try simp -dsimp only [hpush_noH, hpush_hps, hps_over]); refine hle_hpsb ?_; simp -dsimp [allK, bestB, bestV, hbv, ri]; repeat' (first | (refine And.intro ?_ ?_) | (refine sLe.same ?_ ?_ <;> (simp; done)) | (refine sLe.clear ?_ ?_ <;> (first | (simp; done) | (simp; omega))) | (refine sLe.drop 1 ?_ ?_ ?_ <;> (simp; done))))
    · have hlt : n < s.fl.length := by omega
      obtain ⟨f, hf⟩ : ∃ f, s.fl.length - n = f + 1 := ⟨s.fl.length - n - 1, by omega⟩
      have hf2 : s.fl.length - (n + 1) = f := by omega
      have hl : look (s.fl.length - n) s n c = lookTo (look f) s n c s.sp.length := by rw [hf]; simp only [look]; rw [hpr]; simp
      rw [hl, p_p]
      have hnl : ((n : Int) = s.fl.length) = False := eq_false (by omega)
      have hpre : Ob plL s h0 = Ob plL (lookTo (look f) s n c 0) h0 := rfl
      simp -dsimp [Tryd.f77, E77]
      repeat' (first | omega | (simp -dsimp [E77, ri, cellp, ints, hbv, hch, hnl]) | (refine Also.intro ?_ fun _ => ?_) | (refine Hold.intro fun _ => ?_) | (refine And.intro ?_ ?_))
      refine awp_loop [47, 48, 49, 50, 9, 10, 51, 52, 53, 54, 55, 56, 57, 58, 59, 60, 11, 61, 62, 63, 64, 65, 66, 67, 68, 69, 70, 71, 72, 73, 74, 75, 76, 77, 78, 79, 80, 81, 82, 83, 84, 85, 86, 87, 88, 89, 90, 91, 92, 93, 94, 95, 96, 97, 98, 99, 46] (fun k : Fin (s.sp.length + 1) => [(46, (true, .int .i64 (k.1 : Nat)))]) (fun k => Ob plL (lookTo (look f) s n c k.1) h0) (fun k => s.sp.length - k.1) ⟨0, by omega⟩ ?_ ?_ ?_
      · simp [okAll, okv]
      · exact HLe.of_eq hpre
      clear hpre hl hbv hbb hpr
      rintro ⟨k, hk⟩
      simp only
      obtain ⟨e1, e2, e3⟩ := lookTo_same (look_same f) s n c k
      by_cases hk1 : k < s.sp.length
      · have hki : (k : Int) < s.sp.length := by omega
        have hwk : IntKind.wrap .i64 ((k : Int) + 1) = (k + 1 : Nat) := wrap_id (by omega) (by omega)
        have hS := lookTo_succ (look f) s n c k
        have hsl : ∀ S c', (look f S (n + 1) c').sp.length = S.sp.length := fun S c' => (look_same f S (n + 1) c').sp
        generalize lookTo (look f) s n c k = T at *
        obtain ⟨fl', best', ch', bi', cl', sp', nw'⟩ := T
        simp only at e1 e2 e3 hS
        subst e1
        have hk2 : k < sp'.length := by omega
        obtain ⟨a, ha, ha'⟩ := get_ex hk2
        obtain ⟨f0, hf0, hf0'⟩ := get_ex hlt
        have ga : sp'.getD k 0 = a := by simp [List.getD, ha]
        have gf : s.fl.getD n 0 = f0 := by simp [List.getD, hf0]
        rw [ga, gf] at hS
        by_cases hlt2 : a < f0
        · rw [if_pos hlt2] at hS
          simp -dsimp [hki]
          repeat' (first | omega | (simp -dsimp [E77, ri, cellp, ints, hki, e2, hk1, hk2, ha, ha', hf0, hf0', hlt, hlt2, hwk]) | (refine Also.intro ?_ fun _ => ?_) | (refine Hold.intro fun _ => ?_) | (refine And.intro ?_ ?_))
          refine ⟨⟨k + 1, by omega⟩, tle_chain rfl ?_, HLe.of_eq (by show Ob plL _ h0 = Ob plL (lookTo _ s _ c (k + 1)) h0; rw [hS]), by simp only; omega⟩
          simp [okAll, okv]
        · rw [if_neg hlt2] at hS
          simp only [PL.put, PL.more, ga, gf, wsub] at hS
          have hnw : n < nw'.length := by omega
          have hns : n < s.nw.length := by omega
          have hnn : nw' ≠ [] := by rintro rfl; simp at hnw
          have hLk : ∀ x : Int, LkP M ⟨s.fl, best', ch', bi', cl', sp'.set k x, nw'.set n (k : Int)⟩ (n + 1) := fun x => ⟨by simp only [List.length_set]; omega, by simp only; omega, by simp only; omega, p4, by simp only [List.length_set]; omega⟩
          have hn1 : n + 1 ≤ s.nw.length := hns
          have hsp := fun (x : Int) (h : Hp) => p_sp (s := ⟨s.fl, best', ch', bi', cl', sp', nw'⟩) (h := h) (i := k) x
          have hnwf := fun (x : Int) (h : Hp) => p_nw (s := ⟨s.fl, best', ch', bi', cl', sp'.set k x, nw'⟩) (h := h) hnw (k : Int)
          simp only at hsp
          rcases n with _ | j
          · rw [if_neg (by omega)] at hS
            simp -dsimp [ri] at hnwf
            simp -dsimp [hki]
            repeat' (first | omega | (simp -dsimp [E77, ri, cellp, ints, hki, e2, e3, hk1, hk2, ha, ha', hf0, hf0', hlt, hlt2, hwk, hsp, hnwf, p_sp, look_go, hLk, hnw, hnn, hns, hn1, hf2, hsl]) | (refine Also.intro ?_ fun _ => ?_) | (refine Hold.intro fun _ => ?_) | (refine And.intro ?_ ?_))
            refine ⟨⟨k + 1, by omega⟩, tle_chain rfl ?_, HLe.of_eq (by show Ob plL _ h0 = Ob plL (lookTo _ s _ c (k + 1)) h0; rw [hS]), by simp only; omega⟩
            simp [okAll, okv]
          · have hj : j < nw'.length := by omega
            obtain ⟨b, hb1, hb1'⟩ := get_ex hj
            have gb : nw'.getD (j + 1 - 1) 0 = b := by simp [List.getD, hb1]
            have hwj : IntKind.wrap .i64 (((j + 1 : Nat) : Int) - 1) = (j : Nat) := by rw [wrap_id (by omega) (by omega)]; omega
            have hwj2 : IntKind.wrap .i64 (j : Int) = (j : Nat) := wrap_id (by omega) (by omega)
            have hj0 : (0 : Int) < ((j + 1 : Nat) : Int) := by omega
            have hj1 : j < j + 1 := by omega
            rw [gb] at hS
            simp -dsimp [ri] at hnwf
            by_cases hbk : b = (k : Int)
            · rw [if_neg (by rintro ⟨_, h2⟩; exact h2 hbk)] at hS
              simp -dsimp [hki]
              repeat' (first | omega | (simp -dsimp [E77, ri, cellp, ints, hki, e2, e3, hk1, hk2, ha, ha', hf0, hf0', hlt, hlt2, hwk, hsp, hnwf, p_sp, look_go, hLk, hnw, hnn, hns, hn1, hf2, hsl, hwj, hwj2, hj0, hj1, hj, hb1, hb1', hbk]) | (refine Also.intro ?_ fun _ => ?_) | (refine Hold.intro fun _ => ?_) | (refine And.intro ?_ ?_))
              refine ⟨⟨k + 1, by omega⟩, tle_chain rfl ?_, HLe.of_eq (by show Ob plL _ h0 = Ob plL (lookTo _ s _ c (k + 1)) h0; rw [hS]), by simp only; omega⟩
              simp [okAll, okv]
            · rw [if_pos ⟨by omega, hbk⟩] at hS
              simp only [wadd] at hS
              have hbk' : (b = (k : Int)) = False := eq_false hbk
              simp -dsimp [hki]
              repeat' (first | omega | (simp -dsimp [E77, ri, cellp, ints, hki, e2, e3, hk1, hk2, ha, ha', hf0, hf0', hlt, hlt2, hwk, hsp, hnwf, p_sp, look_go, hLk, hnw, hnn, hns, hn1, hf2, hsl, hwj, hwj2, hj0, hj1, hj, hb1, hb1', hbk']) | (refine Also.intro ?_ fun _ => ?_) | (refine Hold.intro fun _ => ?_) | (refine And.intro ?_ ?_))
              refine ⟨⟨k + 1, by omega⟩, tle_chain rfl ?_, HLe.of_eq (by show Ob plL _ h0 = Ob plL (lookTo _ s _ c (k + 1)) h0; rw [hS]), by simp only; omega⟩
              simp [okAll, okv]
      · have hkn : ¬ (k : Int) < s.sp.length := by omega
        have hke : k = s.sp.length := by omega
        subst hke
        simp -dsimp [hkn]
        repeat' (first | omega | (simp -dsimp [E77, ri, cellp, ints, hkn, hle_refl]) | (refine Also.intro ?_ fun _ => ?_) | (refine Hold.intro fun _ => ?_) | (refine And.intro ?_ ?_))

  · have hbv : bestV s.bi s.best = .emp := by rw [hb]; rfl
    have hbb : bestB s.best = ([] : List Blk) := by rw [hb]; rfl
    by_cases hch : s.ch ≤ c
    · have hpr : s.pruned c = true := by simp [PL.pruned, hb, hch]
      rw [look_prune hpr]
      simp -dsimp [Tryd.f77, E77]
      repeat' (first | omega | (simp -dsimp [E77, ri, cellp, ints, hbv, hch, hle_refl]) | (refine Also.intro ?_ fun _ => ?_) | (refine Hold.intro fun _ => ?_) | (refine And.intro ?_ ?_))
    have hpr : s.pruned c = false := by simp [PL.pruned, hb]; omega
    by_cases hn : n = s.fl.length
    · have hl : look (s.fl.length - n) s n c = s.leaf n c := by rw [hn, Nat.sub_self]; simp only [look]; rw [← hn, hpr]; simp
      have htk : s.nw.take n = s.nw := List.take_of_length_le (by omega)
      have hni : (n : Int) = s.fl.length := by omega
      rw [hl]
      have hpost : Ob plL (s.leaf n c) (Ob plL s h0) = hps [(4225, { base := 0, blks := [{ z := 3, els := [[.sl 1 (s.fl.map ri), bestV (s.bi + (bestB s.best).length) (some s.nw), .int .i64 c]], ty := 128, cl := s.cl && s.nw.isEmpty }] }),
         (7805, { base := 0, blks := [{ z := 1, els := s.sp.map ri, ty := 3 }] }), (4231, { base := 0, blks := [{ z := 1, els := s.nw.map ri, ty := 3 }] }), (7738, { base := s.bi + (bestB s.best).length, blks := bestB (some s.nw) })] h0 := by
        rw [p_p, PL.leaf, htk]; rfl
      have hpre : Ob plL s h0 = hps [(4225, { base := 0, blks := [{ z := 3, els := [[.sl 1 (s.fl.map ri), .emp, .int .i64 s.ch]], ty := 128, cl := s.cl }] }),
         (7805, { base := 0, blks := [{ z := 1, els := s.sp.map ri, ty := 3 }] }), (4231, { base := 0, blks := [{ z := 1, els := s.nw.map ri, ty := 3 }] }), (7738, { base := s.bi, blks := ([] : List Blk) })] h0 := by simp only [Ob, plL, hbv, hbb]
      rw [hpost, hpre, hbb]
      have hb8 : s.nw.length * 8 ≤ 140737488355328 := by omega
      have hnn : n = s.nw.length := by omega
      clear hpost hpre hl htk
      rcases hnw : s.nw with _ | ⟨y, ys⟩
      · rw [hnw] at hb8 hnn
        simp only [List.length_nil] at hb8 hnn
        have htk2 : ([] : List (List V)).take n = [] := List.take_nil
        simp -dsimp [Tryd.f77, E77]
        repeat' (first | omega | (simp -dsimp [E77, ri, cellp, ints, hbv, hch, hni, htk2, bestV, bestB]) | (refine Also.intro ?_ fun _ => ?_) | (refine Hold.intro fun _ => ?_) | (refine And.intro ?_ ?_))
        all_goals exact (by (try simp -dsimp only [hpush_noH, hpush_hps, hps_over]); refine hle_hpsb ?_; simp -dsimp [allK, bestB, bestV, hbv]; repeat' (first | (refine And.intro ?_ ?_) | (refine sLe.same ?_ ?_ <;> (simp; done)) | (refine sLe.clear ?_ ?_ <;> (first | (simp; done) | (simp; omega))) | (refine sLe.drop 1 ?_ ?_ ?_ <;> (simp; done))))
      · rw [hnw] at hb8 hnn
        simp only [List.length_cons] at hb8 hnn
        have htk2 : ([V.int .i64 y] :: List.map ri ys).take n = [V.int .i64 y] :: List.map ri ys := List.take_of_length_le (by simp; omega)
        have hle : n ≤ ys.length + 1 := by omega
        simp -dsimp [Tryd.f77, E77]
        repeat' (first | omega | (simp -dsimp [E77, ri, cellp, ints, hbv, hch, hni, htk2, hle, hb8, bestV, bestB, ri]) | (refine Also.intro ?_ fun _ => ?_) | (refine Hold.intro fun _ => ?_) | (refine And.intro ?_ ?_))
        all_goals exact (by (try simp -dsimp only [hpush_noH, hpush_hps, hps_over]); refine hle_hpsb ?_; simp -dsimp [allK, bestB, bestV, hbv, ri]; repeat' (first | (refine And.intro ?_ ?_) | (refine sLe.same ?_ ?_ <;> (simp; done)) | (refine sLe.clear ?_ ?_ <;> (first | (simp; done) | (simp; omega))) | (refine sLe.drop 1 ?_ ?_ ?_ <;> (simp; done))))
    · have hlt : n < s.fl.length := by omega
      obtain ⟨f, hf⟩ : ∃ f, s.fl.length - n = f + 1 := ⟨s.fl.length - n - 1, by omega⟩
      have hf2 : s.fl.length - (n + 1) = f := by omega
      have hl : look (s.fl.length - n) s n c = lookTo (look f) s n c s.sp.length := by rw [hf]; simp only [look]; rw [hpr]; simp
      rw [hl, p_p]
      have hnl : ((n : Int) = s.fl.length) = False := eq_false (by omega)
      have hpre : Ob plL s h0 = Ob plL (lookTo (look f) s n c 0) h0 := rfl
      simp -dsimp [Tryd.f77, E77]
      repeat' (first | omega | (simp -dsimp [E77, ri, cellp, ints, hbv, hch, hnl]) | (refine Also.intro ?_ fun _ => ?_) | (refine Hold.intro fun _ => ?_) | (refine And.intro ?_ ?_))
      refine awp_loop [47, 48, 49, 50, 9, 10, 51, 52, 53, 54, 55, 56, 57, 58, 59, 60, 11, 61, 62, 63, 64, 65, 66, 67, 68, 69, 70, 71, 72, 73, 74, 75, 76, 77, 78, 79, 80, 81, 82, 83, 84, 85, 86, 87, 88, 89, 90, 91, 92, 93, 94, 95, 96, 97, 98, 99, 46] (fun k : Fin (s.sp.length + 1) => [(46, (true, .int .i64 (k.1 : Nat)))]) (fun k => Ob plL (lookTo (look f) s n c k.1) h0) (fun k => s.sp.length - k.1) ⟨0, by omega⟩ ?_ ?_ ?_
      · simp [okAll, okv]
      · exact HLe.of_eq hpre
      clear hpre hl hbv hbb hpr
      rintro ⟨k, hk⟩
      simp only
      obtain ⟨e1, e2, e3⟩ := lookTo_same (look_same f) s n c k
      by_cases hk1 : k < s.sp.length
      · have hki : (k : Int) < s.sp.length := by omega
        have hwk : IntKind.wrap .i64 ((k : Int) + 1) = (k + 1 : Nat) := wrap_id (by omega) (by omega)
        have hS := lookTo_succ (look f) s n c k
        have hsl : ∀ S c', (look f S (n + 1) c').sp.length = S.sp.length := fun S c' => (look_same f S (n + 1) c').sp
        generalize lookTo (look f) s n c k = T at *
        obtain ⟨fl', best', ch', bi', cl', sp', nw'⟩ := T
        simp only at e1 e2 e3 hS
        subst e1
        have hk2 : k < sp'.length := by omega
        obtain ⟨a, ha, ha'⟩ := get_ex hk2
        obtain ⟨f0, hf0, hf0'⟩ := get_ex hlt
        have ga : sp'.getD k 0 = a := by simp [List.getD, ha]
        have gf : s.fl.getD n 0 = f0 := by simp [List.getD, hf0]
        rw [ga, gf] at hS
        by_cases hlt2 : a < f0
        · rw [if_pos hlt2] at hS
          simp -dsimp [hki]
          repeat' (first | omega | (simp -dsimp [E77, ri, cellp, ints, hki, e2, hk1, hk2, ha, ha', hf0, hf0', hlt, hlt2, hwk]) | (refine Also.intro ?_ fun _ => ?_) | (refine Hold.intro fun _ => ?_) | (refine And.intro ?_ ?_))
          refine ⟨⟨k + 1, by omega⟩, tle_chain rfl ?_, HLe.of_eq (by show Ob plL _ h0 = Ob plL (lookTo _ s _ c (k + 1)) h0; rw [hS]), by simp only; omega⟩
          simp [okAll, okv]
        · rw [if_neg hlt2] at hS
          simp only [PL.put, PL.more, ga, gf, wsub] at hS
          have hnw : n < nw'.length := by omega
          have hns : n < s.nw.length := by omega
          have hnn : nw' ≠ [] := by rintro rfl; simp at hnw
          have hLk : ∀ x : Int, LkP M ⟨s.fl, best', ch', bi', cl', sp'.set k x, nw'.set n (k : Int)⟩ (n + 1) := fun x => ⟨by simp only [List.length_set]; omega, by simp only; omega, by simp only; omega, p4, by simp only [List.length_set]; omega⟩
          have hn1 : n + 1 ≤ s.nw.length := hns
          have hsp := fun (x : Int) (h : Hp) => p_sp (s := ⟨s.fl, best', ch', bi', cl', sp', nw'⟩) (h := h) (i := k) x
          have hnwf := fun (x : Int) (h : Hp) => p_nw (s := ⟨s.fl, best', ch', bi', cl', sp'.set k x, nw'⟩) (h := h) hnw (k : Int)
          simp only at hsp
          rcases n with _ | j
          · rw [if_neg (by omega)] at hS
            simp -dsimp [ri] at hnwf
            simp -dsimp [hki]
            repeat' (first | omega | (simp -dsimp [E77, ri, cellp, ints, hki, e2, e3, hk1, hk2, ha, ha', hf0, hf0', hlt, hlt2, hwk, hsp, hnwf, p_sp, look_go, hLk, hnw, hnn, hns, hn1, hf2, hsl]) | (refine Also.intro ?_ fun _ => ?_) | (refine Hold.intro fun _ => ?_) | (refine And.intro ?_ ?_))
            refine ⟨⟨k + 1, by omega⟩, tle_chain rfl ?_, HLe.of_eq (by show Ob plL _ h0 = Ob plL (lookTo _ s _ c (k + 1)) h0; rw [hS]), by simp only; omega⟩
            simp [okAll, okv]
          · have hj : j < nw'.length := by omega
            obtain ⟨b, hb1, hb1'⟩ := get_ex hj
            have gb : nw'.getD (j + 1 - 1) 0 = b := by simp [List.getD, hb1]
            have hwj : IntKind.wrap .i64 (((j + 1 : Nat) : Int) - 1) = (j : Nat) := by rw [wrap_id (by omega) (by omega)]; omega
            have hwj2 : IntKind.wrap .i64 (j : Int) = (j : Nat) := wrap_id (by omega) (by omega)
            have hj0 : (0 : Int) < ((j + 1 : Nat) : Int) := by omega
            have hj1 : j < j + 1 := by omega
            rw [gb] at hS
            simp -dsimp [ri] at hnwf
            by_cases hbk : b = (k : Int)
            · rw [if_neg (by rintro ⟨_, h2⟩; exact h2 hbk)] at hS
              simp -dsimp [hki]
              repeat' (first | omega | (simp -dsimp [E77, ri, cellp, ints, hki, e2, e3, hk1, hk2, ha, ha', hf0, hf0', hlt, hlt2, hwk, hsp, hnwf, p_sp, look_go, hLk, hnw, hnn, hns, hn1, hf2, hsl, hwj, hwj2, hj0, hj1, hj, hb1, hb1', hbk]) | (refine Also.intro ?_ fun _ => ?_) | (refine Hold.intro fun _ => ?_) | (refine And.intro ?_ ?_))
              refine ⟨⟨k + 1, by omega⟩, tle_chain rfl ?_, HLe.of_eq (by show Ob plL _ h0 = Ob plL (lookTo _ s _ c (k + 1)) h0; rw [hS]), by simp only; omega⟩
              simp [okAll, okv]
            · rw [if_pos ⟨by omega, hbk⟩] at hS
              simp only [wadd] at hS
              have hbk' : (b = (k : Int)) = False := eq_false hbk
              simp -dsimp [hki]
              repeat' (first | omega | (simp -dsimp [E77, ri, cellp, ints, hki, e2, e3, hk1, hk2, ha, ha', hf0, hf0', hlt, hlt2, hwk, hsp, hnwf, p_sp, look_go, hLk, hnw, hnn, hns, hn1, hf2, hsl, hwj, hwj2, hj0, hj1, hj, hb1, hb1', hbk']) | (refine Also.intro ?_ fun _ => ?_) | (refine Hold.intro fun _ => ?_) | (refine And.intro ?_ ?_))
              refine ⟨⟨k + 1, by omega⟩, tle_chain rfl ?_, HLe.of_eq (by show Ob plL _ h0 = Ob plL (lookTo _ s _ c (k + 1)) h0; rw [hS]), by simp only; omega⟩
              simp [okAll, okv]
      · have hkn : ¬ (k : Int) < s.sp.length := by omega
        have hke : k = s.sp.length := by omega
        subst hke
        simp -dsimp [hkn]
        repeat' (first | omega | (simp -dsimp [E77, ri, cellp, ints, hkn, hle_refl]) | (refine Also.intro ?_ fun _ => ?_) | (refine Hold.intro fun _ => ?_) | (refine And.intro ?_ ?_))

  · have hbv : bestV s.bi s.best = .osl 7738 s.bi (xs.length + 1) 0 (xs.length + 1) (xs.length + 1) := by rw [hb]; rfl
    have hbb : bestB s.best = [{ z := 1, els := (x :: xs).map ri, ty := 3 }] := by rw [hb]; rfl
    by_cases hch : s.ch ≤ c
    · have hpr : s.pruned c = true := by simp [PL.pruned, hb, hch]
      rw [look_prune hpr]
      simp -dsimp [Tryd.f77, E77]
      repeat' (first | omega | (simp -dsimp [E77, ri, cellp, ints, hbv, hch, hle_refl]) | (refine Also.intro ?_ fun _ => ?_) | (refine Hold.intro fun _ => ?_) | (refine And.intro ?_ ?_))
    have hpr : s.pruned c = false := by simp [PL.pruned, hb]; omega
    by_cases hn : n = s.fl.length
    · have hl : look (s.fl.length - n) s n c = s.leaf n c := by rw [hn, Nat.sub_self]; simp only [look]; rw [← hn, hpr]; simp
      have htk : s.nw.take n = s.nw := List.take_of_length_le (by omega)
      have hni : (n : Int) = s.fl.length := by omega
      rw [hl]
      have hpost : Ob plL (s.leaf n c) (Ob plL s h0) = hps [(4225, { base := 0, blks := [{ z := 3, els := [[.sl 1 (s.fl.map ri), bestV (s.bi + (bestB s.best).length) (some s.nw), .int .i64 c]], ty := 128, cl := s.cl && s.nw.isEmpty }] }),
         (7805, { base := 0, blks := [{ z := 1, els := s.sp.map ri, ty := 3 }] }), (4231, { base := 0, blks := [{ z := 1, els := s.nw.map ri, ty := 3 }] }), (7738, { base := s.bi + (bestB s.best).length, blks := bestB (some s.nw) })] h0 := by
        rw [p_p, PL.leaf, htk]; rfl
      have hpre : Ob plL s h0 = hps [(4225, { base := 0, blks := [{ z := 3, els := [[.sl 1 (s.fl.map ri), .osl 7738 s.bi (xs.length + 1) 0 (xs.length + 1) (xs.length + 1), .int .i64 s.ch]], ty := 128, cl := s.cl }] }),
         (7805, { base := 0, blks := [{ z := 1, els := s.sp.map ri, ty := 3 }] }), (4231, { base := 0, blks := [{ z := 1, els := s.nw.map ri, ty := 3 }] }), (7738, { base := s.bi, blks := [{ z := 1, els := (x :: xs).map ri, ty := 3 }] })] h0 := by simp only [Ob, plL, hbv, hbb]
      rw [hpost, hpre, hbb]
      have hb8 : s.nw.length * 8 ≤ 140737488355328 := by omega
      have hnn : n = s.nw.length := by omega
      clear hpost hpre hl htk
      rcases hnw : s.nw with _ | ⟨y, ys⟩
      · rw [hnw] at hb8 hnn
        simp only [List.length_nil] at hb8 hnn
        have htk2 : ([] : List (List V)).take n = [] := List.take_nil
        simp -dsimp [Tryd.f77, E77]
        repeat' (first | omega | (simp -dsimp [E77, ri, cellp, ints, hbv, hch, hni, htk2, bestV, bestB]) | (refine Also.intro ?_ fun _ => ?_) | (refine Hold.intro fun _ => ?_) | (refine And.intro ?_ ?_))
        all_goals exact (by (try simp -dsimp only [hpush_noH, hpush_hps, hps_over]); refine hle_hpsb ?_; simp -dsimp [allK, bestB, bestV, hbv]; repeat' (first | (refine And.intro ?_ ?_) | (refine sLe.same ?_ ?_ <;> (simp; done)) | (refine sLe.clear ?_ ?_ <;> (first | (simp; done) | (simp; omega))) | (refine sLe.drop 1 ?_ ?_ ?_ <;> (simp; done))))
      · rw [hnw] at hb8 hnn
        simp only [List.length_cons] at hb8 hnn
        have htk2 : ([V.int .i64 y] :: List.map ri ys).take n = [V.int .i64 y] :: List.map ri ys := List.take_of_length_le (by simp; omega)
        have hle : n ≤ ys.length + 1 := by omega
        simp -dsimp [Tryd.f77, E77]
        repeat' (first | omega | (simp -dsimp [E77, ri, cellp, ints, hbv, hch, hni, htk2, hle, hb8, bestV, bestB, ri]) | (refine Also.intro ?_ fun _ => ?_) | (refine Hold.intro fun _ => ?_) | (refine And.intro ?_ ?_))
        all_goals exact (by (try simp -dsimp only [hpush_noH, hpush_hps, hps_over]); refine hle_hpsb ?_; simp -dsimp [allK, bestB, bestV, hbv, ri]; repeat' (first | (refine And.intro ?_ ?_) | (refine sLe.same ?_ ?_ <;> (simp; done)) | (refine sLe.clear ?_ ?_ <;> (first | (simp; done) | (simp; omega))) | (refine sLe.drop 1 ?_ ?_ ?_ <;> (simp; done))))
    · have hlt : n < s.fl.length := by omega
      obtain ⟨f, hf⟩ : ∃ f, s.fl.length - n = f + 1 := ⟨s.fl.length - n - 1, by omega⟩
      have hf2 : s.fl.length - (n + 1) = f := by omega
      have hl : look (s.fl.length - n) s n c = lookTo (look f) s n c s.sp.length := by rw [hf]; simp only [look]; rw [hpr]; simp
      rw [hl, p_p]
      have hnl : ((n : Int) = s.fl.length) = False := eq_false (by omega)
      have hpre : Ob plL s h0 = Ob plL (lookTo (look f) s n c 0) h0 := rfl
      simp -dsimp [Tryd.f77, E77]
      repeat' (first | omega | (simp -dsimp [E77, ri, cellp, ints, hbv, hch, hnl]) | (refine Also.intro ?_ fun _ => ?_) | (refine Hold.intro fun _ => ?_) | (refine And.intro ?_ ?_))
      refine awp_loop [47, 48, 49, 50, 9, 10, 51, 52, 53, 54, 55, 56, 57, 58, 59, 60, 11, 61, 62, 63, 64, 65, 66, 67, 68, 69, 70, 71, 72, 73, 74, 75, 76, 77, 78, 79, 80, 81, 82, 83, 84, 85, 86, 87, 88, 89, 90, 91, 92, 93, 94, 95, 96, 97, 98, 99, 46] (fun k : Fin (s.sp.length + 1) => [(46, (true, .int .i64 (k.1 : Nat)))]) (fun k => Ob plL (lookTo (look f) s n c k.1) h0) (fun k => s.sp.length - k.1) ⟨0, by omega⟩ ?_ ?_ ?_
      · simp [okAll, okv]
      · exact HLe.of_eq hpre
      clear hpre hl hbv hbb hpr
      rintro ⟨k, hk⟩
      simp only
      obtain ⟨e1, e2, e3⟩ := lookTo_same (look_same f) s n c k
      by_cases hk1 : k < s.sp.length
      · have hki : (k : Int) < s.sp.length := by omega
        have hwk : IntKind.wrap .i64 ((k : Int) + 1) = (k + 1 : Nat) := wrap_id (by omega) (by omega)
        have hS := lookTo_succ (look f) s n c k
        have hsl : ∀ S c', (look f S (n + 1) c').sp.length = S.sp.length := fun S c' => (look_same f S (n + 1) c').sp
        generalize lookTo (look f) s n c k = T at *
        obtain ⟨fl', best', ch', bi', cl', sp', nw'⟩ := T
        simp only at e1 e2 e3 hS
        subst e1
        have hk2 : k < sp'.length := by omega
        obtain ⟨a, ha, ha'⟩ := get_ex hk2
        obtain ⟨f0, hf0, hf0'⟩ := get_ex hlt
        have ga : sp'.getD k 0 = a := by simp [List.getD, ha]
        have gf : s.fl.getD n 0 = f0 := by simp [List.getD, hf0]
        rw [ga, gf] at hS
        by_cases hlt2 : a < f0
        · rw [if_pos hlt2] at hS
          simp -dsimp [hki]
          repeat' (first | omega | (simp -dsimp [E77, ri, cellp, ints, hki, e2, hk1, hk2, ha, ha', hf0, hf0', hlt, hlt2, hwk]) | (refine Also.intro ?_ fun _ => ?_) | (refine Hold.intro fun _ => ?_) | (refine And.intro ?_ ?_))
          refine ⟨⟨k + 1, by omega⟩, tle_chain rfl ?_, HLe.of_eq (by show Ob plL _ h0 = Ob plL (lookTo _ s _ c (k + 1)) h0; rw [hS]), by simp only; omega⟩
          simp [okAll, okv]
        · rw [if_neg hlt2] at hS
          simp only [PL.put, PL.more, ga, gf, wsub] at hS
          have hnw : n < nw'.length := by omega
          have hns : n < s.nw.length := by omega
          have hnn : nw' ≠ [] := by rintro rfl; simp at hnw
          have hLk : ∀ x : Int, LkP M ⟨s.fl, best', ch', bi', cl', sp'.set k x, nw'.set n (k : Int)⟩ (n + 1) := fun x => ⟨by simp only [List.length_set]; omega, by simp only; omega, by simp only; omega, p4, by simp only [List.length_set]; omega⟩
          have hn1 : n + 1 ≤ s.nw.length := hns
          have hsp := fun (x : Int) (h : Hp) => p_sp (s := ⟨s.fl, best', ch', bi', cl', sp', nw'⟩) (h := h) (i := k) x
          have hnwf := fun (x : Int) (h : Hp) => p_nw (s := ⟨s.fl, best', ch', bi', cl', sp'.set k x, nw'⟩) (h := h) hnw (k : Int)
          simp only at hsp
          rcases n with _ | j
          · rw [if_neg (by omega)] at hS
            simp -dsimp [ri] at hnwf
            simp -dsimp [hki]
            repeat' (first | omega | (simp -dsimp [E77, ri, cellp, ints, hki, e2, e3, hk1, hk2, ha, ha', hf0, hf0', hlt, hlt2, hwk, hsp, hnwf, p_sp, look_go, hLk, hnw, hnn, hns, hn1, hf2, hsl]) | (refine Also.intro ?_ fun _ => ?_) | (refine Hold.intro fun _ => ?_) | (refine And.intro ?_ ?_))
            refine ⟨⟨k + 1, by omega⟩, tle_chain rfl ?_, HLe.of_eq (by show Ob plL _ h0 = Ob plL (lookTo _ s _ c (k + 1)) h0; rw [hS]), by simp only; omega⟩
            simp [okAll, okv]
          · have hj : j < nw'.length := by omega
            obtain ⟨b, hb1, hb1'⟩ := get_ex hj
            have gb : nw'.getD (j + 1 - 1) 0 = b := by simp [List.getD, hb1]
            have hwj : IntKind.wrap .i64 (((j + 1 : Nat) : Int) - 1) = (j : Nat) := by rw [wrap_id (by omega) (by omega)]; omega
            have hwj2 : IntKind.wrap .i64 (j : Int) = (j : Nat) := wrap_id (by omega) (by omega)
            have hj0 : (0 : Int) < ((j + 1 : Nat) : Int) := by omega
            have hj1 : j < j + 1 := by omega
            rw [gb] at hS
            simp -dsimp [ri] at hnwf
            by_cases hbk : b = (k : Int)
            · rw [if_neg (by rintro ⟨_, h2⟩; exact h2 hbk)] at hS
              simp -dsimp [hki]
              repeat' (first | omega | (simp -dsimp [E77, ri, cellp, ints, hki, e2, e3, hk1, hk2, ha, ha', hf0, hf0', hlt, hlt2, hwk, hsp, hnwf, p_sp, look_go, hLk, hnw, hnn, hns, hn1, hf2, hsl, hwj, hwj2, hj0, hj1, hj, hb1, hb1', hbk]) | (refine Also.intro ?_ fun _ => ?_) | (refine Hold.intro fun _ => ?_) | (refine And.intro ?_ ?_))
              refine ⟨⟨k + 1, by omega⟩, tle_chain rfl ?_, HLe.of_eq (by show Ob plL _ h0 = Ob plL (lookTo _ s _ c (k + 1)) h0; rw [hS]), by simp only; omega⟩
              simp [okAll, okv]
            · rw [if_pos ⟨by omega, hbk⟩] at hS
              simp only [wadd] at hS
              have hbk' : (b = (k : Int)) = False := eq_false hbk
              simp -dsimp [hki]
              repeat' (first | omega | (simp -dsimp [E77, ri, cellp, ints, hki, e2, e3, hk1, hk2, ha, ha', hf0, hf0', hlt, hlt2, hwk, hsp, hnwf, p_sp, look_go, hLk, hnw, hnn, hns, hn1, hf2, hsl, hwj, hwj2, hj0, hj1, hj, hb1, hb1', hbk']) | (refine Also.intro ?_ fun _ => ?_) | (refine Hold.intro fun _ => ?_) | (refine And.intro ?_ ?_))
              refine ⟨⟨k + 1, by omega⟩, tle_chain rfl ?_, HLe.of_eq (by show Ob plL _ h0 = Ob plL (lookTo _ s _ c (k + 1)) h0; rw [hS]), by simp only; omega⟩
              simp [okAll, okv]
      · have hkn : ¬ (k : Int) < s.sp.length := by omega
        have hke : k = s.sp.length := by omega
        subst hke
        simp -dsimp [hkn]
        repeat' (first | omega | (simp -dsimp [E77, ri, cellp, ints, hkn, hle_refl]) | (refine Also.intro ?_ fun _ => ?_) | (refine Hold.intro fun _ => ?_) | (refine And.intro ?_ ?_))

theorem ok77 : ∀ M, FnOK Tryd.prog 77 (.heap (lookS M))
  | 0 => { call := run_call (fn := Tryd.f77) (by kernel_rfl) (by kernel_rfl) rfl, iter := fun S' hS => (by cases hS), pure := fun S' hS => (by cases hS), heap := fun S' hS => (by
      cases hS
      intro args h hc
      obtain ⟨s, d, _, _, hp, _⟩ := obS_inv plL_keys hc
      have := hp.lt
      have := hp.le
      omega) }
  | M + 1 => heap_fn (E := E77 M) rfl (.cons (ok77 M) .nil) (ok := []) (fn := Tryd.f77) (by kernel_rfl) (by kernel_rfl) (by kernel_rfl) (by kernel_rfl) rfl (fun args h hc => by
      obtain ⟨_, _, _, rfl, _⟩ := obS_inv plL_keys hc; simp) (b77 M)
end Go.Sx
end
section
/- Parts: the planner's search finds the reference's best list. No conditions. -/
set_option linter.unusedSimpArgs false
set_option linter.unusedSectionVars false
namespace Go.Sx

/-- How many changes a list of parts has. -/
def chgTo (l : List Int) : Nat → Nat
  | 0 => 0
  | k + 1 => chgTo l k + if 0 < k ∧ l.getD k 0 ≠ l.getD (k - 1) 0 then 1 else 0
def chg (l : List Int) : Nat := chgTo l l.length
theorem chgTo_le (l : List Int) : ∀ k, chgTo l k ≤ k
  | 0 => by simp [chgTo]
  | k + 1 => by
    have := chgTo_le l k
    simp only [chgTo]; split <;> omega
theorem chgTo_app (l r : List Int) : ∀ k, k ≤ l.length → chgTo (l ++ r) k = chgTo l k
  | 0, _ => rfl
  | k + 1, h => by
    have ih := chgTo_app l r k (by omega)
    have e1 : (l ++ r).getD k 0 = l.getD k 0 := by simp only [List.getD]; rw [List.getElem?_append_left (by omega)]
    have e2 : (l ++ r).getD (k - 1) 0 = l.getD (k - 1) 0 := by simp only [List.getD]; rw [List.getElem?_append_left (by omega)]
    simp only [chgTo, ih, e1, e2]
theorem chg_app (l : List Int) (x : Int) : chg (l ++ [x]) = chg l + if 0 < l.length ∧ x ≠ l.getD (l.length - 1) 0 then 1 else 0 := by
  have e : (l ++ [x]).length = l.length + 1 := by simp
  rw [chg, e, chgTo, chgTo_app l [x] l.length (Nat.le_refl _)]
  have e1 : (l ++ [x]).getD l.length 0 = x := by simp [List.getD]
  rw [e1]
  by_cases h : 0 < l.length
  · have e2 : (l ++ [x]).getD (l.length - 1) 0 = l.getD (l.length - 1) 0 := by simp only [List.getD]; rw [List.getElem?_append_left (by omega)]
    rw [e2]; rfl
  · rw [if_neg (fun h1 => h h1.1), if_neg (fun h1 => h h1.1)]; rfl
theorem chg_mono (l : List Int) : ∀ r : List Int, chg l ≤ chg (l ++ r)
  | [] => by simp
  | x :: r => by
    have h1 := chg_mono (l ++ [x]) r
    have h2 := chg_app l x
    have e : l ++ x :: r = (l ++ [x]) ++ r := by simp
    rw [e]
    omega
termination_by r => r.length
/-- The better one of two lists; the first if they are alike. -/
def upd2 (a b : Option (List Int)) : Option (List Int) :=
  match a, b with
  | a, none => a
  | none, some l => some l
  | some m, some l => if chg l < chg m then some l else some m
theorem upd2_assoc (a b c : Option (List Int)) : upd2 (upd2 a b) c = upd2 a (upd2 b c) := by
  cases a <;> cases b <;> cases c <;> simp only [upd2]
  case none.some.some => split <;> rfl
  case some.some.some =>
    rename_i a b c
    by_cases h1 : chg b < chg a <;> by_cases h2 : chg c < chg b
    · have h3 : chg c < chg a := by omega
      simp [h1, h2, h3]
    · simp [h1, h2]
    · simp [h1, h2]
    · have h3 : ¬ chg c < chg a := by omega
      simp [h1, h2, h3]
def rTo (g : List Int → List Int → Option (List Int)) (fl b left : List Int) : Nat → Option (List Int)
  | 0 => none
  | p + 1 => if left.getD p 0 < fl.getD b.length 0 then rTo g fl b left p else upd2 (rTo g fl b left p) (g (b ++ [(p : Int)]) (left.set p (wsub (left.getD p 0) (fl.getD b.length 0))))
/-- The reference's best list that begins with some parts. -/
def rPlans (fl : List Int) : Nat → List Int → List Int → Option (List Int)
  | 0, b, _ => some b
  | f + 1, b, left => rTo (rPlans fl f) fl b left left.length
theorem upd2_some {a b : Option (List Int)} {l : List Int} (h : upd2 a b = some l) : a = some l ∨ b = some l := by
  cases a <;> cases b <;> simp only [upd2] at h
  · cases h
  · exact .inr h
  · exact .inl h
  · split at h
    · exact .inr h
    · exact .inl h
theorem rTo_some {g : List Int → List Int → Option (List Int)} {fl b left l : List Int} : ∀ {p}, rTo g fl b left p = some l → ∃ q, q < p ∧ ¬ left.getD q 0 < fl.getD b.length 0 ∧ g (b ++ [(q : Int)]) (left.set q (wsub (left.getD q 0) (fl.getD b.length 0))) = some l
  | 0, h => by simp [rTo] at h
  | p + 1, h => by
    simp only [rTo] at h
    split at h
    · obtain ⟨q, h1, h2⟩ := rTo_some h; exact ⟨q, by omega, h2⟩
    · rename_i hn
      rcases upd2_some h with h | h
      · obtain ⟨q, h1, h2⟩ := rTo_some h; exact ⟨q, by omega, h2⟩
      · exact ⟨p, by omega, hn, h⟩
theorem rPlans_ext (fl : List Int) : ∀ (f : Nat) (b left l : List Int), rPlans fl f b left = some l → ∃ r, l = b ++ r ∧ r.length = f
  | 0, b, left, l, h => by
    simp only [rPlans, Option.some.injEq] at h
    exact ⟨[], by simp [h], rfl⟩
  | f + 1, b, left, l, h => by
    simp only [rPlans] at h
    obtain ⟨q, _, _, h2⟩ := rTo_some h
    obtain ⟨r, h3, h4⟩ := rPlans_ext fl f _ _ _ h2
    exact ⟨(q : Int) :: r, by rw [h3]; simp, by simp [h4]⟩
theorem upd2_worse {m : List Int} {o : Option (List Int)} (h : ∀ l, o = some l → chg m ≤ chg l) : upd2 (some m) o = some m := by
  cases o with
  | none => rfl
  | some l => simp only [upd2]; rw [if_neg (by have := h l rfl; omega)]
structure LkQ (s t : PL) (n : Nat) (o : Option (List Int)) : Prop where
  best : t.best = upd2 s.best o
  ch : ∀ m, t.best = some m → t.ch = (chg m : Nat)
  sp : t.sp = s.sp
  nw : t.nw.take n = s.nw.take n
theorem look_eq : ∀ (f : Nat) (s : PL) (n : Nat) (c : Int), s.fl.length = n + f → s.nw.length = s.fl.length → s.fl.length ≤ 1000 → c = (chg (s.nw.take n) : Nat) → (∀ m, s.best = some m → s.ch = (chg m : Nat)) →
    LkQ s (look f s n c) n (rPlans s.fl f (s.nw.take n) s.sp)
  | 0, s, n, c, hf, hw, hs, hc, hb => by
    simp only [look, rPlans]
    by_cases hp : s.pruned c = true
    · rw [if_pos hp]
      simp only [PL.pruned, Bool.and_eq_true, decide_eq_true_eq, Option.isSome_iff_exists] at hp
      obtain ⟨⟨m, hm⟩, hle⟩ := hp
      have := hb m hm
      refine ⟨?_, hb, rfl, rfl⟩
      rw [hm, upd2_worse]
      intro l hl
      cases hl
      omega
    · rw [if_neg hp]
      refine ⟨?_, fun m hm => ?_, rfl, rfl⟩
      · show some (s.nw.take n) = _
        cases hm : s.best with
        | none => rfl
        | some m =>
          have := hb m hm
          simp only [upd2]
          simp only [PL.pruned, hm, Option.isSome_some, Bool.true_and, decide_eq_true_eq] at hp
          rw [if_pos (by omega)]
      · have hm' : some (s.nw.take n) = some m := hm
        cases hm'
        exact hc
  | f + 1, s, n, c, hf, hw, hs, hc, hb => by
    simp only [look, rPlans]
    by_cases hp : s.pruned c = true
    · rw [if_pos hp]
      simp only [PL.pruned, Bool.and_eq_true, decide_eq_true_eq, Option.isSome_iff_exists] at hp
      obtain ⟨⟨m, hm⟩, hle⟩ := hp
      have := hb m hm
      refine ⟨?_, hb, rfl, rfl⟩
      rw [hm, upd2_worse]
      intro l hl
      obtain ⟨r, h1, _⟩ := rPlans_ext s.fl (f + 1) _ _ l hl
      have := chg_mono (s.nw.take n) r
      rw [← h1] at this
      omega
    · rw [if_neg hp]
      have hlen : (s.nw.take n).length = n := by rw [List.length_take]; omega
      have key : ∀ i, i ≤ s.sp.length → LkQ s (lookTo (look f) s n c i) n (rTo (rPlans s.fl f) s.fl (s.nw.take n) s.sp i) := by
        intro i
        induction i with
        | zero => intro _; exact ⟨by simp only [lookTo, rTo]; cases s.best <;> rfl, hb, rfl, rfl⟩
        | succ i ih =>
          intro hi
          have ih := ih (by omega)
          have hsm := lookTo_same (look_same f) s n c i
          simp only [lookTo_succ, rTo, hlen]
          generalize lookTo (look f) s n c i = t at *
          have e1 : t.sp.getD i 0 = s.sp.getD i 0 := by rw [ih.sp]
          have e2 : t.fl.getD n 0 = s.fl.getD n 0 := by rw [hsm.fl]
          rw [e1, e2]
          by_cases hlt : s.sp.getD i 0 < s.fl.getD n 0
          · rw [if_pos hlt, if_pos hlt]; exact ih
          · rw [if_neg hlt, if_neg hlt]
            have htn : n < t.nw.length := by rw [hsm.nw]; omega
            have hnw' : (t.put n i).nw.take (n + 1) = s.nw.take n ++ [(i : Int)] := by
              show (t.nw.set n (i : Int)).take (n + 1) = _
              rw [List.take_set, List.take_add_one, ih.nw]
              have : t.nw[n]? = some t.nw[n] := List.getElem?_eq_getElem htn
              rw [this]
              simp [List.set_append, hlen]
            have hmore : t.more n i c = (chg ((t.put n i).nw.take (n + 1)) : Nat) := by
              rw [hnw', chg_app, hlen]
              have e3 : t.nw.getD (n - 1) 0 = (s.nw.take n).getD (n - 1) 0 ∨ n = 0 := by
                by_cases h0 : n = 0
                · exact .inr h0
                · left
                  rw [← ih.nw]
                  simp only [List.getD]
                  rw [List.getElem?_take_of_lt (by omega)]
              have hcl := chgTo_le (s.nw.take n) (s.nw.take n).length
              have hcl' : chg (s.nw.take n) ≤ n := by rw [hlen] at hcl; rw [chg, hlen]; exact hcl
              have hwa : wadd c 1 = c + 1 := wrap_id (by omega) (by omega)
              unfold PL.more
              rcases e3 with e3 | e3
              · rw [e3]
                by_cases hx : 0 < n ∧ (s.nw.take n).getD (n - 1) 0 ≠ (i : Int)
                · rw [if_pos hx, if_pos ⟨hx.1, fun h => hx.2 h.symm⟩, hwa]; omega
                · rw [if_neg hx, if_neg (fun h => hx ⟨h.1, fun h' => h.2 h'.symm⟩)]; omega
              · rw [if_neg (by omega), if_neg (by omega)]; omega
            have hh := look_eq f (t.put n i) (n + 1) (t.more n i c) (by show t.fl.length = _; rw [hsm.fl]; omega) (by show (t.nw.set n (i : Int)).length = t.fl.length; rw [List.length_set, hsm.nw, hsm.fl]; exact hw) (by show t.fl.length ≤ _; rw [hsm.fl]; exact hs) hmore ih.ch
            rw [hnw'] at hh
            have e4 : (t.put n i).fl = s.fl := hsm.fl
            have e5 : (t.put n i).sp = s.sp.set i (wsub (s.sp.getD i 0) (s.fl.getD n 0)) := by simp only [PL.put, e1, e2, ih.sp]
            have e6 : (t.put n i).best = t.best := rfl
            rw [e4, e5] at hh
            refine ⟨?_, hh.ch, ?_, ?_⟩
            · show (look f (t.put n i) (n + 1) (t.more n i c)).best = _
              rw [hh.best, e6, ih.best, upd2_assoc]
            · show (look f (t.put n i) (n + 1) (t.more n i c)).sp.set i _ = _
              rw [hh.sp, e5, List.set_set]
              have hi' : i < s.sp.length := by omega
              have : s.sp[i]? = some (s.sp.getD i 0) := by simp [List.getD, hi']
              refine List.ext_getElem? fun j => ?_
              rw [List.getElem?_set]
              split
              · rename_i e; subst e; exact this.symm
              · rfl
            · have h7 := congrArg (List.take n) hh.nw
              rw [hnw', List.take_take, show min n (n + 1) = n by omega] at h7
              show (look f (t.put n i) (n + 1) (t.more n i c)).nw.take n = _
              rw [h7, List.take_append_of_le_length (by omega), List.take_of_length_le (by omega)]
      exact key _ (Nat.le_refl _)
/-- The program's best list is the reference's. -/
theorem look_best (fl sp nw : List Int) (hw : nw.length = fl.length) (hs : fl.length ≤ 1000) (bi : Nat) (cl : Bool) (ch : Int) :
    (look fl.length ⟨fl, none, ch, bi, cl, sp, nw⟩ 0 0).best = rPlans fl fl.length [] sp ∧ ∀ m, rPlans fl fl.length [] sp = some m → (look fl.length ⟨fl, none, ch, bi, cl, sp, nw⟩ 0 0).ch = (chg m : Nat) := by
  have h := look_eq fl.length ⟨fl, none, ch, bi, cl, sp, nw⟩ 0 0 (by simp) hw hs (by simp [chg, chgTo]) (fun m hm => by cases hm)
  have e : upd2 none (rPlans fl fl.length [] sp) = rPlans fl fl.length [] sp := by cases rPlans fl fl.length [] sp <;> rfl
  have h1 : (look fl.length ⟨fl, none, ch, bi, cl, sp, nw⟩ 0 0).best = rPlans fl fl.length [] sp := by
    rw [h.best]; simpa using e
  exact ⟨h1, fun m hm => h.ch m (by rw [h1]; exact hm)⟩
end Go.Sx
end
section
/- Parts: Changes, plans, CheckPlan and Plan of the reference. No conditions. -/
set_option linter.unusedSimpArgs false
set_option linter.unusedSectionVars false
set_option maxRecDepth 100000
set_option maxHeartbeats 4000000
namespace Go.Sx
open Go.Proofs
attribute [local irreducible] HLe
attribute [local simp] hps_app

abbrev chS : PSpec := { dom := List Int, enc := fun d => [ints d], dec := fun l => (l.getD 0 .top).toInts, pre := fun d => d.length ≤ 1000000, res := fun d => .int .i64 (chg d : Nat) }
noncomputable abbrev E46 : Env := { P := Tryd.prog, fn := tbl [], own := [], key := 4600, nt := 24 }
theorem b46 : PureBody E46 [] Tryd.f46 chS := by
  refine pb ?_
  rintro l hl
  have hl : l.length ≤ 1000000 := hl
  simp -dsimp [Tryd.f46, E46, ints]
  refine awp_loop [5, 6, 7, 8, 11, 12, 13, 14, 15, 16, 17, 18, 19, 20, 21, 22, 3, 9, 10, 4] (fun k : { k : Nat // 1 ≤ k ∧ (k ≤ l.length ∨ k = 1) } => [(4, (true, .int .i64 (k.1 : Nat))), (3, (true, .int .i64 (chgTo l k.1 : Nat)))]) (fun _ => noH) (fun k => l.length - k.1) ⟨1, by omega, .inr rfl⟩ ?_ (HLe.refl _) ?_
  · simp [okAll, okv, chgTo]
  rintro ⟨k, hk0, hk⟩
  simp only
  by_cases hk1 : k < l.length
  · have hki : (k : Int) < l.length := by omega
    obtain ⟨j, rfl⟩ : ∃ j, k = j + 1 := ⟨k - 1, by omega⟩
    have hwk : IntKind.wrap .i64 (((j + 1 : Nat) : Int) + 1) = (j + 1 + 1 : Nat) := wrap_id (by omega) (by omega)
    have hwj : IntKind.wrap .i64 (((j + 1 : Nat) : Int) - 1) = (j : Nat) := by rw [wrap_id (by omega) (by omega)]; omega
    have hwj2 : IntKind.wrap .i64 (j : Int) = (j : Nat) := wrap_id (by omega) (by omega)
    have hj : j < l.length := by omega
    have hji : (j : Int) < l.length := by omega
    obtain ⟨a, ha, ha'⟩ := get_ex hk1
    obtain ⟨b, hb, hb'⟩ := get_ex hj
    have hC : chgTo l (j + 1 + 1) = chgTo l (j + 1) + if 0 < j + 1 ∧ a ≠ b then 1 else 0 := by
      have e1 : l.getD (j + 1) 0 = a := by simp [List.getD, ha]
      have e2 : l.getD (j + 1 - 1) 0 = b := by simp [List.getD, hb]
      rw [chgTo, e1, e2]
    have hle := chgTo_le l (j + 1)
    have hwc : IntKind.wrap .i64 ((chgTo l (j + 1) : Nat) + 1) = (chgTo l (j + 1) + 1 : Nat) := wrap_id (by omega) (by omega)
    generalize chgTo l (j + 1) = C at *
    by_cases hab : a = b
    · rw [if_neg (by rintro ⟨_, h⟩; exact h hab)] at hC
      simp -dsimp [hki]
      repeat' (first | omega | (simp -dsimp [E46, ri, cellp, ints, hki, hk1, hj, hji, ha, ha', hb, hb', hwk, hwj, hwj2, hab]) | (refine Also.intro ?_ fun _ => ?_) | (refine Hold.intro fun _ => ?_) | (refine And.intro ?_ ?_))
      refine ⟨j + 1 + 1, tle_chain rfl ?_, HLe.refl _, ⟨by omega, by omega⟩, by omega⟩
      simp [okAll, okv, hC]
      exact hwk
    · rw [if_pos ⟨by omega, hab⟩] at hC
      have hab' : (a = b) = False := eq_false hab
      simp -dsimp [hki]
      repeat' (first | omega | (simp -dsimp [E46, ri, cellp, ints, hki, hk1, hj, hji, ha, ha', hb, hb', hwk, hwj, hwj2, hab', hwc]) | (refine Also.intro ?_ fun _ => ?_) | (refine Hold.intro fun _ => ?_) | (refine And.intro ?_ ?_))
      refine ⟨j + 1 + 1, tle_chain rfl ?_, HLe.refl _, ⟨by omega, by omega⟩, by omega⟩
      simp [okAll, okv, hC]
      exact hwk
  · have hkn : ¬ (k : Int) < l.length := by omega
    have hF : chgTo l k = chg l := by
      rcases hk with h | h
      · have : k = l.length := by omega
        rw [this, chg]
      · subst h
        have h1 : chgTo l 1 = 0 := by simp [chgTo]
        have h2 : chg l ≤ 0 ∨ l.length = 1 := by
          by_cases h : l.length = 1
          · exact .inr h
          · have := chgTo_le l l.length; left; unfold chg; omega
        rcases h2 with h2 | h2
        · omega
        · rw [chg, h2]
    simp -dsimp [hkn]
    repeat' (first | omega | (simp -dsimp [E46, ri, cellp, ints, hkn, hF]) | (refine Also.intro ?_ fun _ => ?_) | (refine Hold.intro fun _ => ?_) | (refine And.intro ?_ ?_))
theorem ok46 : FnOK Tryd.prog 46 (.pure chS) := pure_fn (E := E46) rfl LOK.nil (ok := []) (fn := Tryd.f46) (by kernel_rfl) (by kernel_rfl) (by kernel_rfl) (by kernel_rfl) rfl (fun _ _ => by simp) b46
def planChk (sp fl : List Int) : Int := if (withinB sp.length 1 6 = true ∧ fl.length ≤ 8) ∧ sp.any (hrB false) = false ∧ fl.any (hrB true) = false then 0 else 1
structure SF where
  sp : List Int
  fl : List Int
def SF.Fine (d : SF) : Prop := d.sp.length ≤ 9223372036854775807 ∧ d.fl.length ≤ 9223372036854775807
abbrev cpS : PSpec := { dom := SF, enc := fun d => [ints d.sp, ints d.fl], dec := fun l => ⟨(l.getD 0 .top).toInts, (l.getD 1 .top).toInts⟩, pre := SF.Fine, res := fun d => .int .i64 (planChk d.sp d.fl) }
theorem any_of {l : List Int} {p : Int → Bool} {k : Nat} (hk : k < l.length) (h : p l[k] = true) : l.any p = true := List.any_eq_true.2 ⟨_, List.getElem_mem hk, h⟩
theorem any_no {l : List Int} {p : Int → Bool} (h : ∀ j (hj : j < l.length), p l[j] = false) : l.any p = false := by
  rw [List.any_eq_false]
  intro x hx
  obtain ⟨j, hj, rfl⟩ := List.getElem_of_mem hx
  simp [h j hj]
noncomputable abbrev E44 : Env := { P := Tryd.prog, fn := tbl [(63, .pure withinS)], own := [], key := 4400, nt := 40 }
theorem b44 : PureBody E44 [] Tryd.f44 cpS := by
  refine pb ?_
  rintro ⟨sp, fl⟩ ⟨b1, b2⟩
  simp only at b1 b2
  cases c1 : withinB sp.length 1 6
  · have hR : planChk sp fl = 1 := by simp [planChk, c1]
    simp -dsimp [Tryd.f44, E44, ints]
    repeat' (first | omega | (simp -dsimp [E44, ri, cellp, ints, c1, hR, b1, b2]) | (refine Also.intro ?_ fun _ => ?_) | (refine Hold.intro fun _ => ?_) | (refine And.intro ?_ ?_))
  by_cases c2 : fl.length ≤ 8
  case neg =>
    have hR : planChk sp fl = 1 := by simp [planChk, c2]
    have c2' : (8 : Int) < fl.length := by omega
    simp -dsimp [Tryd.f44, E44, ints]
    repeat' (first | omega | (simp -dsimp [E44, ri, cellp, ints, c1, c2', hR, b1, b2]) | (refine Also.intro ?_ fun _ => ?_) | (refine Hold.intro fun _ => ?_) | (refine And.intro ?_ ?_))
  have c2' : ¬ (8 : Int) < fl.length := by omega
  simp -dsimp [Tryd.f44, E44, ints]
  repeat' (first | omega | (simp -dsimp [E44, ri, cellp, ints, c1, c2', b1, b2]) | (refine Also.intro ?_ fun _ => ?_) | (refine Hold.intro fun _ => ?_) | (refine And.intro ?_ ?_))
  refine awp_loop [16, 17, 18, 19, 22, 23, 24, 25, 26, 27, 4, 20, 21, 5] (fun k : { k : Nat // k ≤ sp.length ∧ ∀ j (h : j < sp.length), j < k → hrB false sp[j] = false } => [(5, (true, .int .i64 k.1))]) (fun _ => noH) (fun k => sp.length - k.1) ⟨0, by omega, fun _ _ h => by omega⟩ ?_ (HLe.refl _) ?_
  · simp [okAll, okv]
  rintro ⟨k, hk, hall⟩
  simp only
  by_cases hk1 : k < sp.length
  · have hki : (k : Int) < sp.length := by omega
    have hwk : IntKind.wrap .i64 ((k : Int) + 1) = (k + 1 : Nat) := wrap_id (by omega) (by omega)
    obtain ⟨a, ha, ha'⟩ := get_ex hk1
    cases hb : withinB a 0 100000
    · have hR : planChk sp fl = 1 := by
        have : sp.any (hrB false) = true := any_of hk1 (by rw [ha']; simp [hrB, hb])
        simp [planChk, this]
      simp -dsimp [hki]
      repeat' (first | omega | (simp -dsimp [E44, ri, cellp, ints, hki, hk1, ha, ha', hb, hR]) | (refine Also.intro ?_ fun _ => ?_) | (refine Hold.intro fun _ => ?_) | (refine And.intro ?_ ?_))
    · simp -dsimp [hki]
      repeat' (first | omega | (simp -dsimp [E44, ri, cellp, ints, hki, hk1, ha, ha', hb, hwk]) | (refine Also.intro ?_ fun _ => ?_) | (refine Hold.intro fun _ => ?_) | (refine And.intro ?_ ?_))
      refine ⟨k + 1, tle_chain rfl ?_, HLe.refl _, ⟨by omega, fun j h hj => ?_⟩, by omega⟩
      · simp [okAll, okv]
      · by_cases hjk : j = k
        · subst hjk; rw [ha']; simp [hrB, hb]
        · exact hall j h (by omega)
  have hkn : ¬ (k : Int) < sp.length := by omega
  have hsp : sp.any (hrB false) = false := any_no fun j hj => hall j hj (by omega)
  clear hall
  simp -dsimp [hkn]
  repeat' (first | omega | (simp -dsimp [E44, ri, cellp, ints, hkn]) | (refine Also.intro ?_ fun _ => ?_) | (refine Hold.intro fun _ => ?_) | (refine And.intro ?_ ?_))
  refine awp_loop [28, 29, 30, 31, 34, 35, 36, 37, 38, 39, 4, 32, 33, 6] (fun k : { k : Nat // k ≤ fl.length ∧ ∀ j (h : j < fl.length), j < k → hrB true fl[j] = false } => [(6, (true, .int .i64 k.1))]) (fun _ => noH) (fun k => fl.length - k.1) ⟨0, by omega, fun _ _ h => by omega⟩ ?_ (HLe.refl _) ?_
  · simp [okAll, okv]
  rintro ⟨k, hk, hall⟩
  simp only
  by_cases hk1 : k < fl.length
  · have hki : (k : Int) < fl.length := by omega
    have hwk : IntKind.wrap .i64 ((k : Int) + 1) = (k + 1 : Nat) := wrap_id (by omega) (by omega)
    obtain ⟨a, ha, ha'⟩ := get_ex hk1
    cases hb : withinB a 1 100000
    · have hR : planChk sp fl = 1 := by
        have : fl.any (hrB true) = true := any_of hk1 (by rw [ha']; simp [hrB, hb])
        simp [planChk, this]
      simp -dsimp [hki]
      repeat' (first | omega | (simp -dsimp [E44, ri, cellp, ints, hki, hk1, ha, ha', hb, hR]) | (refine Also.intro ?_ fun _ => ?_) | (refine Hold.intro fun _ => ?_) | (refine And.intro ?_ ?_))
    · simp -dsimp [hki]
      repeat' (first | omega | (simp -dsimp [E44, ri, cellp, ints, hki, hk1, ha, ha', hb, hwk]) | (refine Also.intro ?_ fun _ => ?_) | (refine Hold.intro fun _ => ?_) | (refine And.intro ?_ ?_))
      refine ⟨k + 1, tle_chain rfl ?_, HLe.refl _, ⟨by omega, fun j h hj => ?_⟩, by omega⟩
      · simp [okAll, okv]
      · by_cases hjk : j = k
        · subst hjk; rw [ha']; simp [hrB, hb]
        · exact hall j h (by omega)
  have hkn : ¬ (k : Int) < fl.length := by omega
  have hfl : fl.any (hrB true) = false := any_no fun j hj => hall j hj (by omega)
  have hR : planChk sp fl = 0 := by simp only [planChk]; rw [if_pos ⟨⟨c1, c2⟩, hsp, hfl⟩]
  simp -dsimp [hkn]
  repeat' (first | omega | (simp -dsimp [E44, ri, cellp, ints, hkn, hR]) | (refine Also.intro ?_ fun _ => ?_) | (refine Hold.intro fun _ => ?_) | (refine And.intro ?_ ?_))
theorem ok44 : FnOK Tryd.prog 44 (.pure cpS) := pure_fn (E := E44) rfl (.cons ok63 .nil) (ok := []) (fn := Tryd.f44) (by kernel_rfl) (by kernel_rfl) (by kernel_rfl) (by kernel_rfl) rfl (fun _ _ => by simp) b44
end Go.Sx
end
