/- HealthLoose's contract. No conditions. -/
import Derived.Test.YtjnfgejicdnjnaaSxIf
set_option linter.unusedSimpArgs false
set_option linter.unusedVariables false
set_option maxRecDepth 100000
set_option maxHeartbeats 2000000
namespace Go.Sx
open Go.Proofs

abbrev trueLoS : PSpec := { dom := (Int × Int) × Int × Int, enc := fun d => [.agg [.int .i64 d.1.1, .int .i64 d.1.2], .int .i64 d.2.1, .int .i64 d.2.2], dec := fun l => ((((l.getD 0 .top).cs.getD 0 .top).toInt, ((l.getD 0 .top).cs.getD 1 .top).toInt), (l.getD 1 .top).toInt, (l.getD 2 .top).toInt), pre := fun _ => True, res := fun _ => .bool true }
def boxL (S G : Nat) : Site := { base := 0, blks := [{ z := 2, els := [[.int .i64 S, .int .i64 G]], ty := 45 }] }
noncomputable abbrev E7 : Env := { P := Try.prog, fn := tbl [(18, .pure worksS), (25, .pure chS), (28, .pure ExplainS), (29, .pure sameS)], own := [], key := 700, nt := 159, frz := [(19, [11, 50011]), (20, [12, 50012]), (21, [8, 50008, 9, 50009])] }
theorem b7 : PureBody E7 [] Try.f7 trueLoS := by
  refine pb ?_
  rintro ⟨⟨se, ge⟩, sn, gr⟩ _
  by_cases h1 : se < 2
  · simp -dsimp [Try.f7, E7, h1]
    repeat' (first | omega | (simp -dsimp [E7, ri, cellp, ints, h1]) | (refine Also.intro ?_ fun _ => ?_) | (refine Hold.intro fun _ => ?_) | (refine And.intro ?_ ?_))
  by_cases h2 : 8 < se
  · simp -dsimp [Try.f7, E7, h1, h2]
    repeat' (first | omega | (simp -dsimp [E7, ri, cellp, ints, h1, h2]) | (refine Also.intro ?_ fun _ => ?_) | (refine Hold.intro fun _ => ?_) | (refine And.intro ?_ ?_))
  by_cases h3 : ge < 2
  · simp -dsimp [Try.f7, E7, h1, h2, h3]
    repeat' (first | omega | (simp -dsimp [E7, ri, cellp, ints, h1, h2, h3]) | (refine Also.intro ?_ fun _ => ?_) | (refine Hold.intro fun _ => ?_) | (refine And.intro ?_ ?_))
  by_cases h4 : 12 < ge
  · simp -dsimp [Try.f7, E7, h1, h2, h3, h4]
    repeat' (first | omega | (simp -dsimp [E7, ri, cellp, ints, h1, h2, h3, h4]) | (refine Also.intro ?_ fun _ => ?_) | (refine Hold.intro fun _ => ?_) | (refine And.intro ?_ ?_))
  by_cases h5 : sn < 0
  · simp -dsimp [Try.f7, E7, h1, h2, h3, h4, h5]
    repeat' (first | omega | (simp -dsimp [E7, ri, cellp, ints, h1, h2, h3, h4, h5]) | (refine Also.intro ?_ fun _ => ?_) | (refine Hold.intro fun _ => ?_) | (refine And.intro ?_ ?_))
  by_cases h6 : se ≤ sn
  · simp -dsimp [Try.f7, E7, h1, h2, h3, h4, h5, h6]
    repeat' (first | omega | (simp -dsimp [E7, ri, cellp, ints, h1, h2, h3, h4, h5, h6]) | (refine Also.intro ?_ fun _ => ?_) | (refine Hold.intro fun _ => ?_) | (refine And.intro ?_ ?_))
  by_cases h7 : gr < 0
  · simp -dsimp [Try.f7, E7, h1, h2, h3, h4, h5, h6, h7]
    repeat' (first | omega | (simp -dsimp [E7, ri, cellp, ints, h1, h2, h3, h4, h5, h6, h7]) | (refine Also.intro ?_ fun _ => ?_) | (refine Hold.intro fun _ => ?_) | (refine And.intro ?_ ?_))
  by_cases h8 : ge ≤ gr
  · simp -dsimp [Try.f7, E7, h1, h2, h3, h4, h5, h6, h7, h8]
    repeat' (first | omega | (simp -dsimp [E7, ri, cellp, ints, h1, h2, h3, h4, h5, h6, h7, h8]) | (refine Also.intro ?_ fun _ => ?_) | (refine Hold.intro fun _ => ?_) | (refine And.intro ?_ ?_))
  obtain ⟨S, rfl⟩ := Int.eq_ofNat_of_zero_le (show 0 ≤ se by omega)
  obtain ⟨G, rfl⟩ := Int.eq_ofNat_of_zero_le (show 0 ≤ ge by omega)
  obtain ⟨s, rfl⟩ := Int.eq_ofNat_of_zero_le (show 0 ≤ sn by omega)
  obtain ⟨c, rfl⟩ := Int.eq_ofNat_of_zero_le (show 0 ≤ gr by omega)
  have s1 : 2 ≤ S := by omega
  have s2 : S ≤ 8 := by omega
  have g1 : 2 ≤ G := by omega
  have g2 : G ≤ 12 := by omega
  have hs : s < S := by omega
  have hc : c < G := by omega
  simp -dsimp [Try.f7, E7, h1, h2, h3, h4, h5, h6, h7, h8]
  repeat' (first | omega | (simp -dsimp [E7, ri, cellp, ints, h1, h2, h3, h4, h5, h6, h7, h8]) | (refine Also.intro ?_ fun _ => ?_) | (refine Hold.intro fun _ => ?_) | (refine And.intro ?_ ?_))
  refine awp_loop [59, 60, 8, 9, 10, 63, 64, 65, 66, 11, 12, 13, 69, 70, 71, 72, 14, 75, 76, 77, 78, 79, 80, 81, 82, 83, 84, 85, 86, 87, 88, 89, 90, 91, 92, 93, 94, 95, 96, 97, 73, 74, 98, 99, 100, 101, 102, 103, 104, 105, 67, 68, 107, 108, 109, 106, 110, 111, 15, 16, 113, 114, 115, 116, 117, 118, 112, 119, 120, 121, 17, 18, 19, 122, 123, 124, 125, 126, 127, 6, 128, 129, 130, 131, 132, 133, 134, 135, 136, 137, 138, 139, 140, 141, 142, 143, 144, 145, 146, 147, 148, 149, 150, 151, 152, 153, 154, 155, 156, 157, 61, 62, 7] (fun w : Fin 3 => [(7, (true, .int .i64 (w.1 : Nat)))])
    (fun w => hps [(793, { base := w.1 * S, blks := [] }), (797, { base := w.1 * S, blks := [] }), (801, { base := w.1, blks := [] }), (805, { base := w.1, blks := [] }), (703, boxL S G)] noH) (fun w => 3 - w.1) ⟨0, by omega⟩ ?_ ?_ ?_
  · simp [okAll, okv]
  · exact (by (try simp -dsimp only [hpush_noH, hpush_hps, hps_over]); refine hle_hps ?_; simp -dsimp [allK, boxL]; repeat' (first | (refine And.intro ?_ ?_) | (refine sLe.same ?_ ?_ <;> (simp; done)) | (refine sLe.clear ?_ ?_ <;> (first | (simp; done) | (simp; omega))) | (refine sLe.drop 1 ?_ ?_ ?_ <;> (simp; done))))
  rintro ⟨w, hw⟩
  simp only
  by_cases hw1 : w < 2
  case neg =>
    have hw2 : w = 2 := by omega
    subst hw2
    simp -dsimp
    repeat' (first | omega | (simp -dsimp [E7, ri, cellp, ints, *]) | (refine Also.intro ?_ fun _ => ?_) | (refine Hold.intro fun _ => ?_) | (refine And.intro ?_ ?_))
  have wi1 : (w : Int) < 2 := by omega
  have ww : IntKind.wrap .i64 ((w : Int) + 1) = (w + 1 : Nat) := wrap_id (by omega) (by omega)
  simp -dsimp [wi1]
  refine awp_loop_g [(8, 801, 1, 22), (9, 805, 1, 22)] rfl (by simp) [63, 64, 65, 66, 11, 12, 13, 69, 70, 71, 72, 14, 75, 76, 77, 78, 79, 80, 81, 82, 83, 84, 85, 86, 87, 88, 89, 90, 91, 92, 93, 94, 95, 96, 97, 73, 74, 98, 99, 100, 101, 8, 102, 103, 104, 105, 9, 67, 68, 10] (fun i : Fin (S + 1) => [(10, (true, .int .i64 (i.1 : Nat))), (8, (true, .bsl 801 w i.1)), (9, (true, .bsl 805 w i.1))])
    (fun i => hps [(805, { base := w, blks := [{ z := 1, els := (tabTo w s c G i.1).map rl, ty := 22 }] }), (801, { base := w, blks := [{ z := 1, els := (tensTo G i.1).map rl, ty := 22 }] }), (797, { base := w * S + i.1, blks := [] }), (793, { base := w * S + i.1, blks := [] }), (703, boxL S G)] noH) (fun i => S - i.1) ⟨0, by omega⟩ ?_ ?_ ?_
  · simp [okAll, okv]
  · exact (by (try simp -dsimp only [hpush_noH, hpush_hps, hps_over]); refine hle_hps ?_; simp -dsimp [allK, tabTo, tensTo]; repeat' (first | (refine And.intro ?_ ?_) | (refine sLe.same ?_ ?_ <;> (simp; done)) | (refine sLe.clear ?_ ?_ <;> (first | (simp; done) | (simp; omega))) | (refine sLe.drop 1 ?_ ?_ ?_ <;> (simp; done))))
  rintro ⟨i, hi⟩
  simp only
  have lt1 : (tensTo G i).length = i := by simp [tensTo]
  have lt2 : (tabTo w s c G i).length = i := by simp [tabTo]
  by_cases hi1 : i < S
  · have hii : (i : Int) < S := by omega
    have wi2 : IntKind.wrap .i64 ((i : Int) + 1) = (i + 1 : Nat) := wrap_id (by omega) (by omega)
    have ht1 := tensTo_succ G i
    have ht2 := tabTo_succ w s c G i
    have hb24 : (i + 1) * 24 ≤ 140737488355328 := by omega
    simp -dsimp [hii, boxL]
    repeat' (first | omega | (simp -dsimp [E7, ri, cellp, ints, hii, boxL]) | (refine Also.intro ?_ fun _ => ?_) | (refine Hold.intro fun _ => ?_) | (refine And.intro ?_ ?_))
    refine awp_loop_g [(11, 793, 1, 3), (12, 797, 1, 3)] rfl (by simp) [69, 70, 71, 72, 14, 75, 76, 77, 78, 79, 80, 81, 82, 83, 84, 85, 86, 87, 88, 89, 90, 91, 92, 93, 11, 94, 95, 96, 97, 12, 73, 74, 13] (fun g : Fin (G + 1) => [(13, (true, .int .i64 (g.1 : Nat))), (11, (true, .bsl 793 (w * S + i) g.1)), (12, (true, .bsl 797 (w * S + i) g.1))])
      (fun g => hps [(797, { base := w * S + i, blks := [{ z := 1, els := (rowTo w s c i g.1).map ri, ty := 3 }] }), (793, { base := w * S + i, blks := [{ z := 1, els := (tenTo g.1).map ri, ty := 3 }] }), (805, { base := w, blks := [{ z := 1, els := (tabTo w s c G i).map rl, ty := 22 }] }), (801, { base := w, blks := [{ z := 1, els := (tensTo G i).map rl, ty := 22 }] }), (703, boxL S G)] noH) (fun g => G - g.1) ⟨0, by omega⟩ ?_ ?_ ?_
    · simp [okAll, okv]
    · exact (by (try simp -dsimp only [hpush_noH, hpush_hps, hps_over]); refine hle_hps ?_; simp -dsimp [allK, rowTo, tenTo, boxL]; repeat' (first | (refine And.intro ?_ ?_) | (refine sLe.same ?_ ?_ <;> (simp; done)) | (refine sLe.clear ?_ ?_ <;> (first | (simp; done) | (simp; omega))) | (refine sLe.drop 1 ?_ ?_ ?_ <;> (simp; done))))
    rintro ⟨g, hg⟩
    simp only
    have hlt : (tenTo g).length = g := by simp [tenTo]
    have hlr : (rowTo w s c i g).length = g := by simp [rowTo]
    by_cases hg1 : g < G
    · have hgi : (g : Int) < G := by omega
      have wg1 : IntKind.wrap .i64 ((g : Int) + 1) = (g + 1 : Nat) := wrap_id (by omega) (by omega)
      have hr1 := tenTo_succ g
      have hr2 := rowTo_succ w s c i g
      have hb8 : (g + 1) * 8 ≤ 140737488355328 := by omega
      simp -dsimp [hgi, boxL]
      by_cases k0 : w = 0
      case pos =>
        subst k0
        by_cases k1 : i = s
        case pos =>
          subst k1
          have hlv : lv2 0 i c i g = 20 := by unfold lv2; first | rw [if_pos (by omega)] | rw [if_neg (by omega)]
          rw [hlv] at hr2
          repeat' (first | omega | (simp -dsimp [E7, ri, cellp, ints, hgi, boxL, wg1, hlt, hlr, hb8]) | (refine Also.intro ?_ fun _ => ?_) | (refine Hold.intro fun _ => ?_) | (refine And.intro ?_ ?_))
          refine ⟨⟨g + 1, by omega⟩, tle_chain rfl ?_, (by (try simp -dsimp only [hpush_noH, hpush_hps, hps_over]); refine hle_hps ?_; simp -dsimp [allK, hr1, hr2, ri, boxL]; repeat' (first | (refine And.intro ?_ ?_) | (refine sLe.same ?_ ?_ <;> (simp; done)) | (refine sLe.clear ?_ ?_ <;> (first | (simp; done) | (simp; omega))) | (refine sLe.drop 1 ?_ ?_ ?_ <;> (simp; done)))), by simp only; omega⟩
          simp [okAll, okv]
        case neg =>
          have hlv : lv2 0 s c i g = 10 := by unfold lv2; first | rw [if_pos (by omega)] | rw [if_neg (by omega)]
          rw [hlv] at hr2
          repeat' (first | omega | (simp -dsimp [E7, ri, cellp, ints, hgi, boxL, k1, wg1, hlt, hlr, hb8]) | (refine Also.intro ?_ fun _ => ?_) | (refine Hold.intro fun _ => ?_) | (refine And.intro ?_ ?_))
          refine ⟨⟨g + 1, by omega⟩, tle_chain rfl ?_, (by (try simp -dsimp only [hpush_noH, hpush_hps, hps_over]); refine hle_hps ?_; simp -dsimp [allK, hr1, hr2, ri, boxL]; repeat' (first | (refine And.intro ?_ ?_) | (refine sLe.same ?_ ?_ <;> (simp; done)) | (refine sLe.clear ?_ ?_ <;> (first | (simp; done) | (simp; omega))) | (refine sLe.drop 1 ?_ ?_ ?_ <;> (simp; done)))), by simp only; omega⟩
          simp [okAll, okv]
      have k0' : w = 1 := by omega
      subst k0'
      by_cases k1 : g = c
      case pos =>
        subst k1
        have hlv : lv2 1 s g i g = 20 := by unfold lv2; first | rw [if_pos (by omega)] | rw [if_neg (by omega)]
        rw [hlv] at hr2
        repeat' (first | omega | (simp -dsimp [E7, ri, cellp, ints, hgi, boxL, wg1, hlt, hlr, hb8]) | (refine Also.intro ?_ fun _ => ?_) | (refine Hold.intro fun _ => ?_) | (refine And.intro ?_ ?_))
        refine ⟨⟨g + 1, by omega⟩, tle_chain rfl ?_, (by (try simp -dsimp only [hpush_noH, hpush_hps, hps_over]); refine hle_hps ?_; simp -dsimp [allK, hr1, hr2, ri, boxL]; repeat' (first | (refine And.intro ?_ ?_) | (refine sLe.same ?_ ?_ <;> (simp; done)) | (refine sLe.clear ?_ ?_ <;> (first | (simp; done) | (simp; omega))) | (refine sLe.drop 1 ?_ ?_ ?_ <;> (simp; done)))), by simp only; omega⟩
        simp [okAll, okv]
      case neg =>
        have hlv : lv2 1 s c i g = 10 := by unfold lv2; first | rw [if_pos (by omega)] | rw [if_neg (by omega)]
        rw [hlv] at hr2
        repeat' (first | omega | (simp -dsimp [E7, ri, cellp, ints, hgi, boxL, k1, wg1, hlt, hlr, hb8]) | (refine Also.intro ?_ fun _ => ?_) | (refine Hold.intro fun _ => ?_) | (refine And.intro ?_ ?_))
        refine ⟨⟨g + 1, by omega⟩, tle_chain rfl ?_, (by (try simp -dsimp only [hpush_noH, hpush_hps, hps_over]); refine hle_hps ?_; simp -dsimp [allK, hr1, hr2, ri, boxL]; repeat' (first | (refine And.intro ?_ ?_) | (refine sLe.same ?_ ?_ <;> (simp; done)) | (refine sLe.clear ?_ ?_ <;> (first | (simp; done) | (simp; omega))) | (refine sLe.drop 1 ?_ ?_ ?_ <;> (simp; done)))), by simp only; omega⟩
        simp [okAll, okv]
    have hgG : g = G := by omega
    subst hgG
    simp -dsimp [boxL]
    repeat' (first | omega | (simp -dsimp [E7, ri, cellp, ints, wi2, hlt, hlr, lt1, lt2, hb24]) | (refine Also.intro ?_ fun _ => ?_) | (refine Hold.intro fun _ => ?_) | (refine And.intro ?_ ?_))
    refine ⟨⟨i + 1, by omega⟩, tle_kept (kept_upds rfl (kept_forget rfl (kept_upds rfl kept_base))) ?_, (by (try simp -dsimp only [hpush_noH, hpush_hps, hps_over]); refine hle_hps ?_; simp -dsimp [allK, ht1, ht2, rl, boxL]; repeat' (first | (refine And.intro ?_ ?_) | (refine sLe.same ?_ ?_ <;> (simp; done)) | (refine sLe.clear ?_ ?_ <;> (first | (simp; done) | (simp; omega))) | (refine sLe.drop 1 ?_ ?_ ?_ <;> (simp; done)))), by simp only; omega⟩
    simp [okAll, okv]
  have hiS : i = S := by omega
  subst hiS
  have pt1 : tabPre (tensTo G i) := ⟨by omega, fun r hr => by rw [((tens_ok (S := i)).2 r hr).1]; omega⟩
  simp -dsimp [boxL]
  by_cases k0 : w = 0
  case pos =>
    subst k0
    have wone : IntKind.wrap .i64 1 = 1 := wrap_id (by omega) (by omega)
    have hch := loose_changed (w := 0) (s := s) (c := c) (S := i) (G := G) (by decide) s1 s2 g1 g2 hs hc
    have hex : explR i G (looseCells 0 s c i G) = ([(s : Int)], [], 0) := by rw [loose_explained (by decide) s1 s2 g1 g2 hs hc]; rfl
    have pl : (looseCells 0 s c i G).length ≤ 9223372036854775807 := by simp [looseCells]; omega
    have pt2 : tabPre (tabTo 0 s c G i) := ⟨by omega, fun r hr => by rw [((tabs_ok (S := i)).2 r hr).1]; omega⟩
    repeat' (first | omega | (simp -dsimp [E7, ri, cellp, ints, lt1, lt2, tabV, pt1, pt2, hch, hex, pl, wone, boxL]) | (refine Also.intro ?_ fun _ => ?_) | (refine Hold.intro fun _ => ?_) | (refine And.intro ?_ ?_))
    refine ⟨⟨0 + 1, by omega⟩, tle_kept (kept_upds rfl (kept_forget rfl (kept_upds rfl kept_base))) ?_, (by (try simp -dsimp only [hpush_noH, hpush_hps, hps_over]); refine hle_hps ?_; simp -dsimp [allK, boxL]; repeat' (first | (refine And.intro ?_ ?_) | (refine sLe.same ?_ ?_ <;> (simp; done)) | (refine sLe.clear ?_ ?_ <;> (first | (simp; done) | (simp; omega))) | (refine sLe.drop 1 ?_ ?_ ?_ <;> (simp; done)))), by simp only; omega⟩
    simp [okAll, okv]
  have k0' : w = 1 := by omega
  subst k0'
  have wtwo : IntKind.wrap .i64 2 = 2 := wrap_id (by omega) (by omega)
  have wt2 : IntKind.wrap .i64 (1 + 1) = 2 := wrap_id (by omega) (by omega)
  have hch := loose_changed (w := 1) (s := s) (c := c) (S := i) (G := G) (by decide) s1 s2 g1 g2 hs hc
  have hex : explR i G (looseCells 1 s c i G) = ([], [(c : Int)], 0) := by rw [loose_explained (by decide) s1 s2 g1 g2 hs hc]; rfl
  have pl : (looseCells 1 s c i G).length ≤ 9223372036854775807 := by simp [looseCells]; omega
  have pt2 : tabPre (tabTo 1 s c G i) := ⟨by omega, fun r hr => by rw [((tabs_ok (S := i)).2 r hr).1]; omega⟩
  repeat' (first | omega | (simp -dsimp [E7, ri, cellp, ints, lt1, lt2, tabV, pt1, pt2, hch, hex, pl, wtwo, boxL]) | (refine Also.intro ?_ fun _ => ?_) | (refine Hold.intro fun _ => ?_) | (refine And.intro ?_ ?_))
  refine ⟨⟨1 + 1, by omega⟩, tle_kept (kept_upds rfl (kept_forget rfl (kept_upds rfl kept_base))) ?_, (by (try simp -dsimp only [hpush_noH, hpush_hps, hps_over]); refine hle_hps ?_; simp -dsimp [allK, boxL]; repeat' (first | (refine And.intro ?_ ?_) | (refine sLe.same ?_ ?_ <;> (simp; done)) | (refine sLe.clear ?_ ?_ <;> (first | (simp; done) | (simp; omega))) | (refine sLe.drop 1 ?_ ?_ ?_ <;> (simp; done)))), by simp only; omega⟩
  simp [okAll, okv]
theorem ok7 : FnOK Try.prog 7 (.pure trueLoS) := pure_fn (E := E7) rfl (.cons ok18 (.cons ok25 (.cons ok28 (.cons ok29 .nil)))) (ok := []) (fn := Try.f7) (by kernel_rfl) (by kernel_rfl) (by kernel_rfl) (by kernel_rfl) rfl (fun _ _ => by simp) b7
end Go.Sx

