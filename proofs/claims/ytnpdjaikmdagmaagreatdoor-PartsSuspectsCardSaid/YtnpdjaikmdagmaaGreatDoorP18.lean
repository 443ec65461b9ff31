/- A part of a proof; no conditions. -/
import Derived.Test.YtnpdjaikmdagmaaGreatDoorP17
set_option linter.unusedSimpArgs false
set_option linter.unusedVariables false
set_option linter.unusedSectionVars false
section
/- Parts: what the reference reads, part 2. No conditions. -/
set_option linter.unusedSimpArgs false
set_option linter.unusedSectionVars false
set_option maxRecDepth 100000
set_option maxHeartbeats 2000000
namespace Go.Sx
open Go.Proofs
attribute [local irreducible] HLe
attribute [local simp] hps_app

structure RtX where
  r : Reg
  t : RS
  a : Int
  b : Int
  c : Int
  deriving Inhabited
@[simp] def rxE (d : RtX) : List V := [.agg d.r.row, .agg d.t.row, .int .i64 d.a, .int .i64 d.b, .int .i64 d.c]
theorem rxE_inj (x y : RtX) (h : rxE x = rxE y) : x = y := by
  obtain ⟨r, t, a, b, c⟩ := x; obtain ⟨r', t', a', b', c'⟩ := y
  simp only [rxE, List.cons.injEq, V.agg.injEq, V.int.injEq, true_and, and_true] at h
  rw [Reg.row_inj _ _ h.1, RS.row_inj _ _ h.2.1, h.2.2.1, h.2.2.2.1, h.2.2.2.2]
theorem rxE_dec' (r : Reg) (t : RS) (a b c : Int) : decC rxE [.agg [.sl 3 (r.kinds.map Kd.row), .sl 4 (r.parts.map Pt.row), .int .i64 r.machines, .sl 2 (r.orders.map Od.row)], .agg [.sl 2 (t.used.map cycV), .sl 2 (t.whr.map cycV), .sl 1 (t.iss.map rb), snV t.since, dnV t.done], .int .i64 a, .int .i64 b, .int .i64 c] = ⟨r, t, a, b, c⟩ := decC_eq rxE_inj ⟨r, t, a, b, c⟩
structure RtY where
  r : Reg
  t : RS
  a : Int
  deriving Inhabited
@[simp] def ryE (d : RtY) : List V := [.agg d.r.row, .agg d.t.row, .int .i64 d.a]
theorem ryE_inj (x y : RtY) (h : ryE x = ryE y) : x = y := by
  obtain ⟨r, t, a⟩ := x; obtain ⟨r', t', a'⟩ := y
  simp only [ryE, List.cons.injEq, V.agg.injEq, V.int.injEq, true_and, and_true] at h
  rw [Reg.row_inj _ _ h.1, RS.row_inj _ _ h.2.1, h.2.2]
theorem ryE_dec' (r : Reg) (t : RS) (a : Int) : decC ryE [.agg [.sl 3 (r.kinds.map Kd.row), .sl 4 (r.parts.map Pt.row), .int .i64 r.machines, .sl 2 (r.orders.map Od.row)], .agg [.sl 2 (t.used.map cycV), .sl 2 (t.whr.map cycV), .sl 1 (t.iss.map rb), snV t.since, dnV t.done], .int .i64 a] = ⟨r, t, a⟩ := decC_eq ryE_inj ⟨r, t, a⟩
theorem lendN_snV (f : Nat) (h : Hp) (l : List (List Int)) : lendN f h (snV l) = (True, snV l) := by unfold snV; split <;> cases f <;> rfl
theorem lendN_dnV (f : Nat) (h : Hp) (l : List (List Bool)) : lendN f h (dnV l) = (True, dnV l) := by unfold dnV; split <;> cases f <;> rfl
@[simp ↓ high] theorem lend1_snV (h : Hp) (l : List (List Int)) : lend1 h (snV l) = (True, snV l) := lendN_snV 3 h l
@[simp ↓ high] theorem lend1_dnV (h : Hp) (l : List (List Bool)) : lend1 h (dnV l) = (True, dnV l) := lendN_dnV 3 h l
@[simp ↓ high] theorem leaf_snV (l : List (List Int)) : (snV l).leaf = true := by unfold snV; split <;> rfl
@[simp ↓ high] theorem leaf_dnV (l : List (List Bool)) : (dnV l).leaf = true := by unfold dnV; split <;> rfl
@[simp ↓ high] theorem cell1_snV (l : List (List Int)) : (snV l).cell1 = true := by unfold snV; split <;> rfl
@[simp ↓ high] theorem cell1_dnV (l : List (List Bool)) : (dnV l).cell1 = true := by unfold dnV; split <;> rfl
@[simp ↓ high] theorem rf1_snV (l : List (List Int)) : (snV l).refFree1 = true := by unfold snV; split <;> rfl
@[simp ↓ high] theorem rf1_dnV (l : List (List Bool)) : (dnV l).refFree1 = true := by unfold dnV; split <;> rfl
@[simp ↓ high] theorem rf_snV (l : List (List Int)) : (snV l).refFree = true := by unfold snV; split <;> rfl
@[simp ↓ high] theorem rf_dnV (l : List (List Bool)) : (dnV l).refFree = true := by unfold dnV; split <;> rfl
@[simp ↓ high] theorem sub0_snV (l : List (List Int)) : sub0 (snV l) (snV l) := by unfold snV; split <;> simp [sub0]
@[simp ↓ high] theorem sub0_dnV (l : List (List Bool)) : sub0 (dnV l) (dnV l) := by unfold dnV; split <;> simp [sub0]
attribute [simp high] lend1_snV lend1_dnV leaf_snV leaf_dnV cell1_snV cell1_dnV rf1_snV rf1_dnV rf_snV rf_dnV sub0_snV sub0_dnV
@[simp] theorem m_snV (l : List (List Int)) : (match snV l, snV l with | _, .top => True | .nil, .sl _ [] => True | .emp, .sl _ [] => True | x, y => x = y) = True := eq_true (sub0_snV l)
@[simp] theorem m_dnV (l : List (List Bool)) : (match dnV l, dnV l with | _, .top => True | .nil, .sl _ [] => True | .emp, .sl _ [] => True | x, y => x = y) = True := eq_true (sub0_dnV l)
noncomputable abbrev rpartS : PSpec := mkP rxE (fun d => d.t.Wf d.r) fun d => .int .i64 ((d.t.hi d.r).at d.b d.a d.c)
noncomputable abbrev E40 : Env := { P := Tryz.prog, fn := tbl [], own := [], key := 4000, nt := 39 }
theorem b40 : PureBody E40 [] Tryz.f40 rpartS := by
  refine pb ?_
  rintro ⟨r, t, m, kk, pl⟩ hwf
  simp only at hwf
  obtain ⟨v1, v2, v3, v4, v5, v6, v7, v8⟩ := valid_facts hwf.val
  simp -dsimp [Tryz.f40, E40, Reg.row, RS.row]
  refine awp_loop [12, 13, 14, 15, 16, 19, 20, 21, 22, 23, 24, 25, 26, 27, 28, 29, 30, 31, 32, 33, 34, 35, 36, 37, 38, 10, 17, 18, 11] (fun k : { k : Nat // k ≤ r.parts.length ∧ ∀ j (h : j < (t.ps r).length), j < k → atIs kk m pl (t.ps r)[j] = false } => [(11, (true, .int .i64 (k.1 : Nat)))])
    (fun k => hps [(4006, { base := 0, blks := [{ z := 5, els := [[.sl 2 (t.used.map cycV), .sl 2 (t.whr.map cycV), .sl 1 (t.iss.map rb), snV t.since, dnV t.done]], ty := 101 }] }), (4005, { base := 0, blks := [{ z := 4, els := [[.sl 3 (r.kinds.map Kd.row), .sl 4 (r.parts.map Pt.row), .int .i64 r.machines, .sl 2 (r.orders.map Od.row)]], ty := 26 }] })] noH) (fun k => r.parts.length - k.1) ⟨0, by omega, fun _ _ h => by omega⟩ ?_ ?_ ?_
  · simp [okAll, okv]
  · exact (by (try simp -dsimp only [hpush_noH, hpush_hps, hps_over]); refine hle_hps ?_; simp -dsimp [allK, ]; repeat' (first | (refine And.intro ?_ ?_) | (refine sLe.same ?_ ?_ <;> (simp; done)) | (refine sLe.clear ?_ ?_ <;> (first | (simp; done) | (simp; omega))) | (refine sLe.drop 1 ?_ ?_ ?_ <;> (simp; done))))
  rintro ⟨k, hk, hall⟩
  simp only
  by_cases hk1 : k < r.parts.length
  · have hki : (k : Int) < r.parts.length := by omega
    have wk : IntKind.wrap .i64 ((k : Int) + 1) = (k + 1 : Nat) := wrap_id (by omega) (by omega)
    obtain ⟨p, hp, hp'⟩ := get_ex hk1
    have hkw : k < t.whr.length := by rw [hwf.whr]; exact hk1
    obtain ⟨w, hw, hw'⟩ := get_ex hkw
    have hkp : k < (t.ps r).length := by rw [RS.ps_len]; exact hk1
    have hpg : (t.ps r)[k] = t.pt r k := by have := t.ps_get r hk1; rw [List.getElem?_eq_getElem hkp] at this; exact Option.some.inj this
    have hat : atIs kk m pl (t.ps r)[k] = (p.kind == kk && (w.1 == m && w.2 == pl)) := by
      rw [hpg]; simp [atIs, RS.pt, List.getD, hp, hw]
    by_cases hkk : p.kind = kk
    · cases hq : (w.1 == m && w.2 == pl)
      · have hf : atIs kk m pl (t.ps r)[k] = false := by rw [hat, hq]; simp
        simp -dsimp [hki]
        repeat' (first | omega | (simp -dsimp [E40, ri, cellp, ints, hki, hk1, hp, hp', hw, hw', hkw, wk, Pt.row, cycV, hkk, hq]) | (refine Also.intro ?_ fun _ => ?_) | (refine Hold.intro fun _ => ?_) | (refine And.intro ?_ ?_))
        refine ⟨k + 1, tle_chain rfl ?_, (by (try simp -dsimp only [hpush_noH, hpush_hps, hps_over]); refine hle_hps ?_; simp -dsimp [allK, ]; repeat' (first | (refine And.intro ?_ ?_) | (refine sLe.same ?_ ?_ <;> (simp; done)) | (refine sLe.clear ?_ ?_ <;> (first | (simp; done) | (simp; omega))) | (refine sLe.drop 1 ?_ ?_ ?_ <;> (simp; done)))), ⟨by omega, fun j h hj => ?_⟩, by omega⟩
        · simp [okAll, okv]
        · by_cases hjk : j = k
          · subst hjk; exact hf
          · exact hall j h (by omega)
      · have hf : atIs kk m pl (t.ps r)[k] = true := by rw [hat, hq]; simp [hkk]
        have hz : (t.hi r).at kk m pl = k := idxZ_at (t.ps r) (atIs kk m pl) hkp hf hall
        simp -dsimp [hki]
        repeat' (first | omega | (simp -dsimp [E40, ri, cellp, ints, hki, hk1, hp, hp', hw, hw', hkw, wk, Pt.row, cycV, hkk, hq, hz]) | (refine Also.intro ?_ fun _ => ?_) | (refine Hold.intro fun _ => ?_) | (refine And.intro ?_ ?_))
    · have hf : atIs kk m pl (t.ps r)[k] = false := by rw [hat]; simp [hkk]
      simp -dsimp [hki]
      repeat' (first | omega | (simp -dsimp [E40, ri, cellp, ints, hki, hk1, hp, hp', wk, Pt.row, hkk]) | (refine Also.intro ?_ fun _ => ?_) | (refine Hold.intro fun _ => ?_) | (refine And.intro ?_ ?_))
      refine ⟨k + 1, tle_chain rfl ?_, (by (try simp -dsimp only [hpush_noH, hpush_hps, hps_over]); refine hle_hps ?_; simp -dsimp [allK, ]; repeat' (first | (refine And.intro ?_ ?_) | (refine sLe.same ?_ ?_ <;> (simp; done)) | (refine sLe.clear ?_ ?_ <;> (first | (simp; done) | (simp; omega))) | (refine sLe.drop 1 ?_ ?_ ?_ <;> (simp; done)))), ⟨by omega, fun j h hj => ?_⟩, by omega⟩
      · simp [okAll, okv]
      · by_cases hjk : j = k
        · subst hjk; exact hf
        · exact hall j h (by omega)
  · have hkn : ¬ (k : Int) < r.parts.length := by omega
    have hz : (t.hi r).at kk m pl = -1 := idxZ_none (t.ps r) (atIs kk m pl) (fun j h => hall j h (by rw [RS.ps_len] at h; omega))
    simp -dsimp [hkn]
    repeat' (first | omega | (simp -dsimp [E40, ri, cellp, ints, hkn, hz]) | (refine Also.intro ?_ fun _ => ?_) | (refine Hold.intro fun _ => ?_) | (refine And.intro ?_ ?_))
theorem ok40 : FnOK Tryz.prog 40 (.pure rpartS) := pure_fn (E := E40) rfl LOK.nil (ok := []) (fn := Tryz.f40) (by kernel_rfl) (by kernel_rfl) (by kernel_rfl) (by kernel_rfl) rfl (fun _ _ => by simp) b40
noncomputable abbrev rlacksS : PSpec := mkP ryE (fun d => d.t.Wf d.r) fun d => prs ((d.t.hi d.r).lacks d.a)
noncomputable abbrev E138 : Env := { P := Tryz.prog, fn := tbl [(40, .pure rpartS)], own := [], key := 13800, nt := 41 }
theorem b138 : PureBody E138 [] Tryz.f138 rlacksS := by
  refine pb ?_
  rintro ⟨r, t, m⟩ hwf
  simp only at hwf
  obtain ⟨v1, v2, v3, v4, v5, v6, v7, v8⟩ := valid_facts hwf.val
  have hsm := hwf.small
  obtain ⟨x, hx⟩ : ∃ x, x = t.hi r := ⟨_, rfl⟩
  have hxk : x.r = r := by rw [hx]; rfl
  rw [← hx] at hsm
  simp -dsimp [Tryz.f138, E138, Reg.row, RS.row]
  repeat' (first | omega | (simp -dsimp [E138, ri, cellp, ints, RS.row]) | (refine Also.intro ?_ fun _ => ?_) | (refine Hold.intro fun _ => ?_) | (refine And.intro ?_ ?_))
  refine awp_loop_g [(7, 13839, 2, 41)] rfl (by simp) [10, 11, 12, 13, 14, 9, 17, 18, 19, 20, 21, 22, 23, 24, 27, 28, 29, 30, 31, 32, 33, 34, 35, 36, 37, 38, 39, 7, 25, 26, 15, 16, 8] (fun k : Fin (r.kinds.length + 1) => [(8, (true, .int .i64 (k.1 : Nat))), (7, (true, .bsl 13839 0 (x.lackTo m k.1).length))])
    (fun k => hps [(13839, { base := 0, blks := [{ z := 2, els := (x.lackTo m k.1).map cycV, ty := 41 }] }), (13804, { base := 0, blks := [{ z := 5, els := [[.sl 2 (t.used.map cycV), .sl 2 (t.whr.map cycV), .sl 1 (t.iss.map rb), snV t.since, dnV t.done]], ty := 101 }] }), (13803, { base := 0, blks := [{ z := 4, els := [[.sl 3 (r.kinds.map Kd.row), .sl 4 (r.parts.map Pt.row), .int .i64 r.machines, .sl 2 (r.orders.map Od.row)]], ty := 26 }] })] noH) (fun k => r.kinds.length - k.1) ⟨0, by omega⟩ ?_ ?_ ?_
  · simp [okAll, okv, HI.lackTo]
  · exact (by (try simp -dsimp only [hpush_noH, hpush_hps, hps_over]); refine hle_hps ?_; simp -dsimp [allK, HI.lackTo]; repeat' (first | (refine And.intro ?_ ?_) | (refine sLe.same ?_ ?_ <;> (simp; done)) | (refine sLe.clear ?_ ?_ <;> (first | (simp; done) | (simp; omega))) | (refine sLe.drop 1 ?_ ?_ ?_ <;> (simp; done))))
  rintro ⟨k, hk⟩
  simp only
  by_cases hk1 : k < r.kinds.length
  · have hki : (k : Int) < r.kinds.length := by omega
    have wk : IntKind.wrap .i64 ((k : Int) + 1) = (k + 1 : Nat) := wrap_id (by omega) (by omega)
    obtain ⟨kd, hkd, hkd'⟩ := get_ex hk1
    have hT : x.lackTo m (k + 1) = x.lackTo m k ++ x.lackK m k (x.places k) := rfl
    have hpl : x.places k = kd.places.toNat := by simp [HI.places, hxk, List.getD, hkd]
    have hTl := lackTo_len hsm m k
    have hpk := places_le hsm k
    rw [hpl] at hT hpk
    generalize x.lackTo m k = T at *
    generalize hpn : kd.places.toNat = pn at *
    simp -dsimp [hki]
    repeat' (first | omega | (simp -dsimp [E138, ri, cellp, ints, hki, hk1, hkd, hkd', wk, Kd.row]) | (refine Also.intro ?_ fun _ => ?_) | (refine Hold.intro fun _ => ?_) | (refine And.intro ?_ ?_))
    refine awp_loop [17, 18, 19, 20, 21, 22, 23, 24, 27, 28, 29, 30, 31, 32, 33, 34, 35, 36, 37, 38, 39, 7, 25, 26, 9] (fun j : Fin (pn + 1) => [(9, (true, .int .i64 (j.1 : Nat))), (7, (true, .bsl 13839 0 (T ++ x.lackK m k j.1).length))])
      (fun j => hps [(13839, { base := 0, blks := [{ z := 2, els := (T ++ x.lackK m k j.1).map cycV, ty := 41 }] }), (13804, { base := 0, blks := [{ z := 5, els := [[.sl 2 (t.used.map cycV), .sl 2 (t.whr.map cycV), .sl 1 (t.iss.map rb), snV t.since, dnV t.done]], ty := 101 }] }), (13803, { base := 0, blks := [{ z := 4, els := [[.sl 3 (r.kinds.map Kd.row), .sl 4 (r.parts.map Pt.row), .int .i64 r.machines, .sl 2 (r.orders.map Od.row)]], ty := 26 }] })] noH) (fun j => pn - j.1) ⟨0, by omega⟩ ?_ ?_ ?_
    · simp [okAll, okv, HI.lackK]
    · exact (by (try simp -dsimp only [hpush_noH, hpush_hps, hps_over]); refine hle_hps ?_; simp -dsimp [allK, HI.lackK]; repeat' (first | (refine And.intro ?_ ?_) | (refine sLe.same ?_ ?_ <;> (simp; done)) | (refine sLe.clear ?_ ?_ <;> (first | (simp; done) | (simp; omega))) | (refine sLe.drop 1 ?_ ?_ ?_ <;> (simp; done))))
    rintro ⟨j, hj⟩
    simp only
    by_cases hj1 : j < pn
    · have hji : (j : Int) < kd.places := by omega
      have wj : IntKind.wrap .i64 ((j : Int) + 1) = (j + 1 : Nat) := wrap_id (by omega) (by omega)
      have hL : x.lackK m k (j + 1) = if x.emp m k j = true then x.lackK m k j ++ [((k : Int), (j : Int))] else x.lackK m k j := rfl
      have hLl := lackK_len x m k j
      have hem : x.emp m k j = decide (x.at k m j < 0) := rfl
      have hax : (t.hi r).at k m j = x.at k m j := by rw [hx]
      generalize x.lackK m k j = L at *
      by_cases he : x.at k m j < 0
      · rw [hem, decide_eq_true he, if_pos rfl] at hL
        have hb8 : (T.length + L.length + 1) * 16 ≤ 140737488355328 := by omega
        simp -dsimp [hji]
        repeat' (first | omega | (simp -dsimp [E138, ri, cellp, ints, hji, hkd, hkd', hk1, hki, Kd.row, rxE_dec', hwf, hax, he, wj, hb8, cycV]) | (refine Also.intro ?_ fun _ => ?_) | (refine Hold.intro fun _ => ?_) | (refine And.intro ?_ ?_))
        refine ⟨⟨j + 1, by omega⟩, tle_chain rfl ?_, (by (try simp -dsimp only [hpush_noH, hpush_hps, hps_over]); refine hle_hps ?_; simp -dsimp [allK, hL, cycV]; repeat' (first | (refine And.intro ?_ ?_) | (refine sLe.same ?_ ?_ <;> (simp; done)) | (refine sLe.clear ?_ ?_ <;> (first | (simp; done) | (simp; omega))) | (refine sLe.drop 1 ?_ ?_ ?_ <;> (simp; done)))), by simp only; omega⟩
        simp [okAll, okv, hL, Nat.add_assoc]
      · rw [hem, decide_eq_false he, if_neg (by simp)] at hL
        simp -dsimp [hji]
        repeat' (first | omega | (simp -dsimp [E138, ri, cellp, ints, hji, hkd, hkd', hk1, hki, Kd.row, rxE_dec', hwf, hax, he, wj, cycV]) | (refine Also.intro ?_ fun _ => ?_) | (refine Hold.intro fun _ => ?_) | (refine And.intro ?_ ?_))
        refine ⟨⟨j + 1, by omega⟩, tle_chain rfl ?_, (by (try simp -dsimp only [hpush_noH, hpush_hps, hps_over]); refine hle_hps ?_; simp -dsimp [allK, hL, cycV]; repeat' (first | (refine And.intro ?_ ?_) | (refine sLe.same ?_ ?_ <;> (simp; done)) | (refine sLe.clear ?_ ?_ <;> (first | (simp; done) | (simp; omega))) | (refine sLe.drop 1 ?_ ?_ ?_ <;> (simp; done)))), by simp only; omega⟩
        simp [okAll, okv, hL]
    · have hje : j = pn := by omega
      have hjn : ¬ (j : Int) < kd.places := by omega
      simp -dsimp [hjn]
      repeat' (first | omega | (simp -dsimp [E138, ri, cellp, ints, hjn, hkd, hkd', hk1, hki, Kd.row, wk]) | (refine Also.intro ?_ fun _ => ?_) | (refine Hold.intro fun _ => ?_) | (refine And.intro ?_ ?_))
      refine ⟨⟨k + 1, by omega⟩, tle_kept (kept_upds rfl (kept_forget rfl (kept_upds rfl kept_base))) ?_, (by (try simp -dsimp only [hpush_noH, hpush_hps, hps_over]); refine hle_hps ?_; simp -dsimp [allK, hT, hje]; repeat' (first | (refine And.intro ?_ ?_) | (refine sLe.same ?_ ?_ <;> (simp; done)) | (refine sLe.clear ?_ ?_ <;> (first | (simp; done) | (simp; omega))) | (refine sLe.drop 1 ?_ ?_ ?_ <;> (simp; done)))), by simp only; omega⟩
      simp [okAll, okv, hT, hje]
  · have hkn : ¬ (k : Int) < r.kinds.length := by omega
    have hke : k = r.kinds.length := by omega
    subst hke
    have hla : (t.hi r).lacks m = x.lackTo m r.kinds.length := by rw [← hx, HI.lacks, hxk]
    simp -dsimp [hkn]
    repeat' (first | omega | (simp -dsimp [E138, ri, cellp, ints, hkn, hla, prs]) | (refine Also.intro ?_ fun _ => ?_) | (refine Hold.intro fun _ => ?_) | (refine And.intro ?_ ?_))
theorem ok138 : FnOK Tryz.prog 138 (.pure rlacksS) := pure_fn (E := E138) rfl (.cons ok40 .nil) (ok := []) (fn := Tryz.f138) (by kernel_rfl) (by kernel_rfl) (by kernel_rfl) (by kernel_rfl) rfl (fun _ _ => by simp) b138
structure RS.LfP (r : Reg) (t : RS) (p : Int) : Prop where
  wf : t.Wf r
  p0 : 0 ≤ p
  p1 : p < r.parts.length
noncomputable abbrev rleftS : PSpec := mkP ryE (fun d => RS.LfP d.r d.t d.a) fun d => .tup [.int .i64 ((d.t.hi d.r).leftT (d.t.pt d.r d.a.toNat)), .int .i64 ((d.t.hi d.r).leftC (d.t.pt d.r d.a.toNat))]
noncomputable abbrev E139 : Env := { P := Tryz.prog, fn := tbl [], own := [], key := 13900, nt := 94 }
theorem b139 : PureBody E139 [] Tryz.f139 rleftS := by
  refine pb ?_
  rintro ⟨r, t, pi⟩ ⟨hwf, hp0, hp1⟩
  simp only at hwf hp0 hp1
  obtain ⟨v1, v2, v3, v4, v5, v6, v7, v8⟩ := valid_facts hwf.val
  obtain ⟨pn, rfl⟩ : ∃ pn : Nat, pi = pn := ⟨pi.toNat, by omega⟩
  have hpn : pn < r.parts.length := by omega
  obtain ⟨p, hp, hp'⟩ := get_ex hpn
  have hpu : pn < t.used.length := by rw [hwf.used]; exact hpn
  obtain ⟨u, hu, hu'⟩ := get_ex hpu
  have hpb := v7 p (hp' ▸ List.getElem_mem hpn)
  obtain ⟨ki, hki⟩ : ∃ ki : Nat, p.kind = ki := ⟨p.kind.toNat, by omega⟩
  have hk2 : ki < r.kinds.length := by omega
  obtain ⟨kd, hkd, hkd'⟩ := get_ex hk2
  obtain ⟨x, hx⟩ : ∃ x, x = t.hi r := ⟨_, rfl⟩
  obtain ⟨q, hq⟩ : ∃ q, q = t.pt r pn := ⟨_, rfl⟩
  have hxr : x.r = r := by rw [hx]; rfl
  have hxi : x.iss = t.iss := by rw [hx]; rfl
  have q1 : q.kind = ki := by rw [hq]; simp [RS.pt, List.getD, hp, hki]
  have q2 : q.hours = u.1 := by rw [hq]; simp [RS.pt, List.getD, hu]
  have q3 : q.cycles = u.2 := by rw [hq]; simp [RS.pt, List.getD, hu]
  have q4 : ∀ i, q.since.getD i 0 = (t.since.getD i []).getD pn 0 := by
    intro i
    rw [hq]
    simp only [RS.pt, List.getD, List.getElem?_map]
    cases t.since[i]? <;> simp
  have q5 : ∀ i, q.chk.getD i false = (t.done.getD i []).getD pn false := by
    intro i
    rw [hq]
    simp only [RS.pt, List.getD, List.getElem?_map]
    cases t.done[i]? <;> simp
  have g1 : x.r.kinds.getD ki default = kd := by simp [hxr, List.getD, hkd]
  have hC : x.leftC q = IntKind.wrap .i64 (kd.cycles - u.2) := by simp only [HI.leftC, wsub, q1, q3, Int.toNat_natCast, g1]
  have hH : x.leftH q 0 = IntKind.wrap .i64 (kd.hours - u.1) := by simp only [HI.leftH, wsub, q1, q2, Int.toNat_natCast, g1]
  have hTT : x.leftT q = x.leftH q r.orders.length := by rw [HI.leftT, hxr]
  have r1 : (t.hi r).leftT (t.pt r pn) = x.leftH q r.orders.length := by rw [← hx, ← hq, hTT]
  have r2 : (t.hi r).leftC (t.pt r pn) = IntKind.wrap .i64 (kd.cycles - u.2) := by rw [← hx, ← hq, hC]
  simp -dsimp [Tryz.f139, E139, Reg.row, RS.row]
  repeat' (first | omega | (simp -dsimp [E139, ri, cellp, ints, RS.row, hp, hp', hpn, hp0, hp1, Pt.row, hki, hkd, hkd', hk2, Kd.row, hu, hu', hpu, cycV]) | (refine Also.intro ?_ fun _ => ?_) | (refine Hold.intro fun _ => ?_) | (refine And.intro ?_ ?_))
  refine awp_loop [30, 31, 32, 33, 34, 37, 38, 39, 40, 41, 42, 43, 44, 45, 46, 47, 48, 49, 50, 51, 52, 53, 54, 55, 56, 57, 58, 59, 60, 61, 62, 63, 64, 65, 66, 67, 68, 69, 70, 71, 72, 73, 74, 75, 76, 77, 78, 79, 9, 35, 36, 10] (fun k : Fin (r.orders.length + 1) => [(10, (true, .int .i64 (k.1 : Nat))), (9, (true, .int .i64 (x.leftH q k.1)))]) (fun k => hps [(13904, { base := 0, blks := [{ z := 5, els := [[.sl 2 (t.used.map cycV), .sl 2 (t.whr.map cycV), .sl 1 (t.iss.map rb), snV t.since, dnV t.done]], ty := 101 }] }), (13903, { base := 0, blks := [{ z := 4, els := [[.sl 3 (r.kinds.map Kd.row), .sl 4 (r.parts.map Pt.row), .int .i64 r.machines, .sl 2 (r.orders.map Od.row)]], ty := 26 }] })] noH) (fun k => r.orders.length - k.1) ⟨0, by omega⟩ ?_ ?_ ?_
  · simp [okAll, okv, hH]
  · exact (by (try simp -dsimp only [hpush_noH, hpush_hps, hps_over]); refine hle_hps ?_; simp -dsimp [allK, ]; repeat' (first | (refine And.intro ?_ ?_) | (refine sLe.same ?_ ?_ <;> (simp; done)) | (refine sLe.clear ?_ ?_ <;> (first | (simp; done) | (simp; omega))) | (refine sLe.drop 1 ?_ ?_ ?_ <;> (simp; done))))
  rintro ⟨k, hk⟩
  simp only
  by_cases hk1 : k < r.orders.length
  · have hki2 : (k : Int) < r.orders.length := by omega
    have wk : IntKind.wrap .i64 ((k : Int) + 1) = (k + 1 : Nat) := wrap_id (by omega) (by omega)
    have l1 : k < t.iss.length := by rw [hwf.iss]; exact hk1
    have l2 : k < t.done.length := by rw [hwf.done]; exact hk1
    have l3 : k < t.since.length := by rw [hwf.since]; exact hk1
    obtain ⟨od, hod, hod'⟩ := get_ex hk1
    obtain ⟨b1, hb1, hb1'⟩ := get_ex l1
    obtain ⟨dr, hdr, hdr'⟩ := get_ex l2
    obtain ⟨sr, hsr, hsr'⟩ := get_ex l3
    have l4 : pn < dr.length := by rw [hwf.doner dr (hdr' ▸ List.getElem_mem l2)]; exact hpn
    have l5 : pn < sr.length := by rw [hwf.sincer sr (hsr' ▸ List.getElem_mem l3)]; exact hpn
    obtain ⟨b2, hb2, hb2'⟩ := get_ex l4
    obtain ⟨sn, hsn, hsn'⟩ := get_ex l5
    have hs : x.leftH q (k + 1) = if b1 && (od.kind == (ki : Int) && !b2) then imin (x.leftH q k) (wsub od.within sn) else x.leftH q k := by
      simp only [HI.leftH, HI.leftI, q4, q5, q1, hxr, hxi]
      simp only [List.getD, hod, hb1, hdr, hsr, hb2, hsn, Option.getD_some]
    have hsv := snV_ne (l := t.since) (by omega)
    have hdv := dnV_ne (l := t.done) (by omega)
    generalize x.leftH q k = H at *
    by_cases hkk : od.kind = (ki : Int)
    case neg =>
      have hkk2 : (od.kind == (ki : Int)) = false := by simpa using hkk
      have hkk' : (od.kind = (ki : Int)) = False := eq_false hkk
      simp -dsimp [hki2]
      repeat' (first | omega | (simp -dsimp [E139, ri, cellp, ints, hki2, hk1, hod, hod', wk, Od.row, hkk', hkk2]) | (refine Also.intro ?_ fun _ => ?_) | (refine Hold.intro fun _ => ?_) | (refine And.intro ?_ ?_))
      refine ⟨⟨k + 1, by omega⟩, tle_chain rfl ?_, (by (try simp -dsimp only [hpush_noH, hpush_hps, hps_over]); refine hle_hps ?_; simp -dsimp [allK, ]; repeat' (first | (refine And.intro ?_ ?_) | (refine sLe.same ?_ ?_ <;> (simp; done)) | (refine sLe.clear ?_ ?_ <;> (first | (simp; done) | (simp; omega))) | (refine sLe.drop 1 ?_ ?_ ?_ <;> (simp; done)))), by simp only; omega⟩
      simp [okAll, okv, hs, hkk]
    cases b1
    · simp -dsimp [hki2]
      repeat' (first | omega | (simp -dsimp [E139, ri, cellp, ints, hki2, hk1, hod, hod', hb1, hb1', l1, wk, Od.row, rb, hkk]) | (refine Also.intro ?_ fun _ => ?_) | (refine Hold.intro fun _ => ?_) | (refine And.intro ?_ ?_))
      refine ⟨⟨k + 1, by omega⟩, tle_chain rfl ?_, (by (try simp -dsimp only [hpush_noH, hpush_hps, hps_over]); refine hle_hps ?_; simp -dsimp [allK, ]; repeat' (first | (refine And.intro ?_ ?_) | (refine sLe.same ?_ ?_ <;> (simp; done)) | (refine sLe.clear ?_ ?_ <;> (first | (simp; done) | (simp; omega))) | (refine sLe.drop 1 ?_ ?_ ?_ <;> (simp; done)))), by simp only; omega⟩
      simp [okAll, okv, hs]
    cases b2
    · simp -dsimp [hki2]
      repeat' (first | omega | (simp -dsimp [E139, ri, cellp, ints, hki2, hk1, hod, hod', hb1, hb1', l1, l2, l3, l4, l5, hdr, hdr', hsr, hsr', hb2, hb2', hsn, hsn', hsv, hdv, bls, wk, Od.row, rb, hkk]) | (refine Also.intro ?_ fun _ => ?_) | (refine Hold.intro fun _ => ?_) | (refine And.intro ?_ ?_))
      refine ⟨⟨k + 1, by omega⟩, tle_chain rfl ?_, (by (try simp -dsimp only [hpush_noH, hpush_hps, hps_over]); refine hle_hps ?_; simp -dsimp [allK, ]; repeat' (first | (refine And.intro ?_ ?_) | (refine sLe.same ?_ ?_ <;> (simp; done)) | (refine sLe.clear ?_ ?_ <;> (first | (simp; done) | (simp; omega))) | (refine sLe.drop 1 ?_ ?_ ?_ <;> (simp; done)))), by simp only; omega⟩
      by_cases hlt : IntKind.i64.wrap (od.within - sn) < H <;> simp [okAll, okv, hs, hkk, imin, wsub, hlt]
    · simp -dsimp [hki2]
      repeat' (first | omega | (simp -dsimp [E139, ri, cellp, ints, hki2, hk1, hod, hod', hb1, hb1', l1, l2, l4, hdr, hdr', hb2, hb2', hdv, bls, wk, Od.row, rb, hkk]) | (refine Also.intro ?_ fun _ => ?_) | (refine Hold.intro fun _ => ?_) | (refine And.intro ?_ ?_))
      refine ⟨⟨k + 1, by omega⟩, tle_chain rfl ?_, (by (try simp -dsimp only [hpush_noH, hpush_hps, hps_over]); refine hle_hps ?_; simp -dsimp [allK, ]; repeat' (first | (refine And.intro ?_ ?_) | (refine sLe.same ?_ ?_ <;> (simp; done)) | (refine sLe.clear ?_ ?_ <;> (first | (simp; done) | (simp; omega))) | (refine sLe.drop 1 ?_ ?_ ?_ <;> (simp; done)))), by simp only; omega⟩
      simp [okAll, okv, hs, hkk]
  · have hkn : ¬ (k : Int) < r.orders.length := by omega
    have hke : k = r.orders.length := by omega
    subst hke
    simp -dsimp [hkn]
    repeat' (first | omega | (simp -dsimp [E139, ri, cellp, ints, hkn, hki, hkd, hkd', hk2, Kd.row, hu, hu', hpu, cycV, r1, r2, hp0, hp1, hpn]) | (refine Also.intro ?_ fun _ => ?_) | (refine Hold.intro fun _ => ?_) | (refine And.intro ?_ ?_))
theorem ok139 : FnOK Tryz.prog 139 (.pure rleftS) := pure_fn (E := E139) rfl LOK.nil (ok := []) (fn := Tryz.f139) (by kernel_rfl) (by kernel_rfl) (by kernel_rfl) (by kernel_rfl) rfl (fun _ _ => by simp) b139
end Go.Sx
end
section
/- Parts: whether a machine can fly, the state at first, and its copy. No conditions. -/
set_option linter.unusedSimpArgs false
set_option linter.unusedSectionVars false
set_option maxRecDepth 100000
set_option maxHeartbeats 4000000
namespace Go.Sx
open Go.Proofs
attribute [local irreducible] HLe
attribute [local simp] hps_app

def HI.can (x : HI) (m h c : Int) (p : PS) : Bool := !(p.a == m) || (decide (h ≤ x.leftT p) && decide (c ≤ x.leftC p))
def HI.flies (x : HI) (m h c : Int) : Bool := decide (x.lacks m = []) && x.ps.all (x.can m h c)
noncomputable abbrev rfliesS : PSpec := mkP rxE (fun d => d.t.Wf d.r) fun d => .bool ((d.t.hi d.r).flies d.a d.b d.c)
theorem lacks_len {x : HI} (hs : x.Small) (m : Int) : (x.lacks m).length ≤ 1000000 := by
  have := lackTo_len hs m x.r.kinds.length
  have := hs.kinds
  simp only [HI.lacks]; omega
noncomputable abbrev E117 : Env := { P := Tryz.prog, fn := tbl [(138, .pure rlacksS), (139, .pure rleftS)], own := [], key := 11700, nt := 50 }
theorem b117 : PureBody E117 [] Tryz.f117 rfliesS := by
  refine pb ?_
  rintro ⟨r, t, m, h, c⟩ hwf
  simp only at hwf
  obtain ⟨v1, v2, v3, v4, v5, v6, v7, v8⟩ := valid_facts hwf.val
  have hll := lacks_len hwf.small m
  by_cases hl : (t.hi r).lacks m = []
  case neg =>
    have hl' : (0 : Int) < ((t.hi r).lacks m).length := by
      have : 0 < ((t.hi r).lacks m).length := List.length_pos_iff.2 hl
      omega
    have hl2 : 0 < ((t.hi r).lacks m).length := by omega
    have hf : (t.hi r).flies m h c = false := by simp [HI.flies, hl]
    simp -dsimp [Tryz.f117, E117, Reg.row, RS.row]
    repeat' (first | omega | (exact sub0_snV _) | (exact sub0_dnV _) | (simp -dsimp [E117, ri, cellp, ints, ryE_dec', hwf, prs, hl, hl', hl2, hf]) | (refine Also.intro ?_ fun _ => ?_) | (refine Hold.intro fun _ => ?_) | (refine And.intro ?_ ?_))
  simp -dsimp [Tryz.f117, E117, Reg.row, RS.row]
  repeat' (first | omega | (exact sub0_snV _) | (exact sub0_dnV _) | (simp -dsimp [E117, ri, cellp, ints, ryE_dec', hwf, prs, hl]) | (refine Also.intro ?_ fun _ => ?_) | (refine Hold.intro fun _ => ?_) | (refine And.intro ?_ ?_))
  refine awp_loop [20, 21, 22, 23, 24, 27, 28, 29, 30, 31, 32, 33, 34, 36, 37, 38, 39, 35, 40, 41, 12, 13, 42, 43, 44, 45, 46, 47, 48, 49, 10, 25, 26, 11] (fun k : { k : Nat // k ≤ r.parts.length ∧ ∀ j (h1 : j < (t.ps r).length), j < k → (t.hi r).can m h c (t.ps r)[j] = true } => [(11, (true, .int .i64 (k.1 : Nat)))])
    (fun k => hps [(11706, { base := 0, blks := [{ z := 5, els := [[.sl 2 (t.used.map cycV), .sl 2 (t.whr.map cycV), .sl 1 (t.iss.map rb), snV t.since, dnV t.done]], ty := 101 }] }), (11705, { base := 0, blks := [{ z := 4, els := [[.sl 3 (r.kinds.map Kd.row), .sl 4 (r.parts.map Pt.row), .int .i64 r.machines, .sl 2 (r.orders.map Od.row)]], ty := 26 }] })] noH) (fun k => r.parts.length - k.1) ⟨0, by omega, fun _ _ h => by omega⟩ ?_ ?_ ?_
  · simp [okAll, okv]
  · exact (by (try simp -dsimp only [hpush_noH, hpush_hps, hps_over]); refine hle_hps ?_; simp -dsimp [allK, ]; repeat' (first | (refine And.intro ?_ ?_) | (refine sLe.same ?_ ?_ <;> (simp; done)) | (refine sLe.clear ?_ ?_ <;> (first | (simp; done) | (simp; omega))) | (refine sLe.drop 1 ?_ ?_ ?_ <;> (simp; done))))
  rintro ⟨k, hk, hall⟩
  simp only
  by_cases hk1 : k < r.parts.length
  · have hki : (k : Int) < r.parts.length := by omega
    have wk : IntKind.wrap .i64 ((k : Int) + 1) = (k + 1 : Nat) := wrap_id (by omega) (by omega)
    have hkw : k < t.whr.length := by rw [hwf.whr]; exact hk1
    obtain ⟨w, hw, hw'⟩ := get_ex hkw
    have hkp : k < (t.ps r).length := by rw [RS.ps_len]; exact hk1
    have hpg : (t.ps r)[k] = t.pt r k := by have := t.ps_get r hk1; rw [List.getElem?_eq_getElem hkp] at this; exact Option.some.inj this
    have hcan : (t.hi r).can m h c (t.ps r)[k] = (!(w.1 == m) || (decide (h ≤ (t.hi r).leftT (t.pt r k)) && decide (c ≤ (t.hi r).leftC (t.pt r k)))) := by
      rw [hpg]; simp only [HI.can]; simp [RS.pt, List.getD, hw]
    have hLf : RS.LfP r t (k : Int) := ⟨hwf, by omega, by omega⟩
    have step : ∀ hf : (t.hi r).can m h c (t.ps r)[k] = true, ∀ j (h1 : j < (t.ps r).length), j < k + 1 → (t.hi r).can m h c (t.ps r)[j] = true := by
      intro hf j h1 hj
      by_cases hjk : j = k
      · subst hjk; exact hf
      · exact hall j h1 (by omega)
    have bad : (t.hi r).can m h c (t.ps r)[k] = false → (t.hi r).flies m h c = false := by
      intro hf
      have : (t.ps r).all ((t.hi r).can m h c) = false := by
        rw [List.all_eq_false]; exact ⟨_, List.getElem_mem hkp, by rw [hf]; simp⟩
      show (decide ((t.hi r).lacks m = []) && (t.ps r).all ((t.hi r).can m h c)) = false
      rw [this]; simp
    by_cases hm : w.1 = m
    case neg =>
      have hm' : (w.1 = m) = False := eq_false hm
      have hf : (t.hi r).can m h c (t.ps r)[k] = true := by rw [hcan]; simp [hm]
      simp -dsimp [hki]
      repeat' (first | omega | (exact sub0_snV _) | (exact sub0_dnV _) | (simp -dsimp [E117, ri, cellp, ints, hki, hk1, hw, hw', hkw, wk, cycV, hm']) | (refine Also.intro ?_ fun _ => ?_) | (refine Hold.intro fun _ => ?_) | (refine And.intro ?_ ?_))
      refine ⟨k + 1, tle_chain rfl ?_, (by (try simp -dsimp only [hpush_noH, hpush_hps, hps_over]); refine hle_hps ?_; simp -dsimp [allK, ]; repeat' (first | (refine And.intro ?_ ?_) | (refine sLe.same ?_ ?_ <;> (simp; done)) | (refine sLe.clear ?_ ?_ <;> (first | (simp; done) | (simp; omega))) | (refine sLe.drop 1 ?_ ?_ ?_ <;> (simp; done)))), ⟨by omega, step hf⟩, by omega⟩
      simp [okAll, okv]
    by_cases h1 : (t.hi r).leftT (t.pt r k) < h
    · have hf : (t.hi r).can m h c (t.ps r)[k] = false := by
        have : ¬ h ≤ (t.hi r).leftT (t.pt r k) := by omega
        rw [hcan]; simp [hm, this]
      have hfl := bad hf
      simp -dsimp [hki]
      repeat' (first | omega | (exact sub0_snV _) | (exact sub0_dnV _) | (simp -dsimp [E117, ri, cellp, ints, hki, hk1, hw, hw', hkw, wk, cycV, hm, ryE_dec', hLf, h1, hfl]) | (refine Also.intro ?_ fun _ => ?_) | (refine Hold.intro fun _ => ?_) | (refine And.intro ?_ ?_))
    have h1' : h ≤ (t.hi r).leftT (t.pt r k) := by omega
    by_cases h2 : (t.hi r).leftC (t.pt r k) < c
    · have hf : (t.hi r).can m h c (t.ps r)[k] = false := by
        have : ¬ c ≤ (t.hi r).leftC (t.pt r k) := by omega
        rw [hcan]; simp [hm, this]
      have hfl := bad hf
      simp -dsimp [hki]
      repeat' (first | omega | (exact sub0_snV _) | (exact sub0_dnV _) | (simp -dsimp [E117, ri, cellp, ints, hki, hk1, hw, hw', hkw, wk, cycV, hm, ryE_dec', hLf, h1, h2, hfl]) | (refine Also.intro ?_ fun _ => ?_) | (refine Hold.intro fun _ => ?_) | (refine And.intro ?_ ?_))
    have h2' : c ≤ (t.hi r).leftC (t.pt r k) := by omega
    have hf : (t.hi r).can m h c (t.ps r)[k] = true := by rw [hcan]; simp [h1', h2']
    simp -dsimp [hki]
    repeat' (first | omega | (exact sub0_snV _) | (exact sub0_dnV _) | (simp -dsimp [E117, ri, cellp, ints, hki, hk1, hw, hw', hkw, wk, cycV, hm, ryE_dec', hLf, h1, h2]) | (refine Also.intro ?_ fun _ => ?_) | (refine Hold.intro fun _ => ?_) | (refine And.intro ?_ ?_))
    refine ⟨k + 1, tle_chain rfl ?_, (by (try simp -dsimp only [hpush_noH, hpush_hps, hps_over]); refine hle_hps ?_; simp -dsimp [allK, ]; repeat' (first | (refine And.intro ?_ ?_) | (refine sLe.same ?_ ?_ <;> (simp; done)) | (refine sLe.clear ?_ ?_ <;> (first | (simp; done) | (simp; omega))) | (refine sLe.drop 1 ?_ ?_ ?_ <;> (simp; done)))), ⟨by omega, step hf⟩, by omega⟩
    simp [okAll, okv]
  · have hkn : ¬ (k : Int) < r.parts.length := by omega
    have hfl : (t.hi r).flies m h c = true := by
      have : (t.ps r).all ((t.hi r).can m h c) = true := by
        rw [List.all_eq_true]
        intro x hx
        obtain ⟨j, hj, rfl⟩ := List.mem_iff_getElem.1 hx
        exact hall j hj (by rw [RS.ps_len] at hj; omega)
      show (decide ((t.hi r).lacks m = []) && (t.ps r).all ((t.hi r).can m h c)) = true
      rw [this, decide_eq_true hl]; rfl
    simp -dsimp [hkn]
    repeat' (first | omega | (exact sub0_snV _) | (exact sub0_dnV _) | (simp -dsimp [E117, ri, cellp, ints, hkn, hfl]) | (refine Also.intro ?_ fun _ => ?_) | (refine Hold.intro fun _ => ?_) | (refine And.intro ?_ ?_))
theorem ok117 : FnOK Tryz.prog 117 (.pure rfliesS) := pure_fn (E := E117) rfl (.cons ok138 (.cons ok139 .nil)) (ok := []) (fn := Tryz.f117) (by kernel_rfl) (by kernel_rfl) (by kernel_rfl) (by kernel_rfl) rfl (fun _ _ => by simp) b117
end Go.Sx
end
section
/- Parts: the reference's state at first. No conditions. -/
set_option linter.unusedSimpArgs false
set_option linter.unusedSectionVars false
set_option maxRecDepth 100000
set_option maxHeartbeats 4000000
namespace Go.Sx
open Go.Proofs
attribute [local irreducible] HLe
attribute [local simp] hps_app

def prB (rows : List (List V)) : List Blk := if rows.length = 0 then [] else [{ z := 2, els := rows, ty := 41 }]
theorem prB_ne {rows : List (List V)} (h : 0 < rows.length) : prB rows = [{ z := 2, els := rows, ty := 41 }] := by unfold prB; rw [if_neg (by omega)]
theorem prB_one (x : List V) : prB [x] = [{ z := 2, els := [x], ty := 41 }] := rfl
theorem prB_nil : prB [] = [] := rfl
theorem lsV_zero (k : Nat) : lsV k 0 = .nil := rfl
theorem lsB_nil (ty : Nat) : lsB [] ty = [] := rfl
def rgV (site m n : Nat) : List (List V) := (List.range m).map fun k => [.bsl site k n]
theorem rgV_zero (site n : Nat) : rgV site 0 n = [] := rfl
theorem rgV_succ (site m n : Nat) : rgV site (m + 1) n = rgV site m n ++ [[.bsl site m n]] := by simp [rgV, List.range_succ]
theorem rgV_len (site m n : Nat) : (rgV site m n).length = m := by simp [rgV]
theorem lend_rows {h : Hp} {site m n : Nat} {B : Blk} (hB : B.cl = true) (hb : B.els.length = n) (hh : h site = { base := 0, blks := List.replicate m B }) :
    lendRs (lendN 2 h) (rgV site m n) = (True, List.replicate m [.sl B.z B.els]) := by
  have : lendRs (lendN 2 h) (rgV site m n) = (True, (List.range m).map fun _ => [.sl B.z B.els]) := by
    refine lendRs_map fun k hk => ?_
    have hk' : k < m := by simpa using hk
    have hg : hget h site k = some B := by simp [hget, hh, hk']
    simp [lendCs, V.leaf, lendN, hg, hb, lendB, hB]
  rw [this]
  congr 1
  exact List.map_const' .. |>.trans (by simp)
theorem leaf_lsV' (k n : Nat) : (lsV k n).leaf = true := leaf_lsV k n
@[simp ↓ high] theorem cell1_lsV (k n : Nat) : (lsV k n).cell1 = true := by unfold lsV; split <;> rfl
noncomputable abbrev beginS : PSpec := mkP regE (fun r => r.valid = true) fun r => .agg (RS.new r).row
noncomputable abbrev E69 : Env := { P := Tryz.prog, fn := tbl [], own := [55, 64], key := 6900, nt := 68 }
theorem b69 : PureBody E69 [(10, ([2001], [[0, 1, 2, 3, 4, 5, 6, 7, 8, 9]])), (11, ([2001], [[0, 1, 2, 3, 4, 5, 6, 7, 8, 9]]))] Tryz.f69 beginS := by
  refine pb ?_
  rintro r hv
  obtain ⟨v1, v2, v3, v4, v5, v6, v7, v8⟩ := valid_facts hv
  obtain ⟨no, hno⟩ : ∃ no, no = r.orders.length := ⟨_, rfl⟩
  obtain ⟨np, hnp⟩ : ∃ np, np = r.parts.length := ⟨_, rfl⟩
  simp -dsimp [Tryz.f69, E69, Reg.row]
  repeat' (first | omega | (simp -dsimp [E69, ri, cellp, ints, ← hno, v3]) | (refine Also.intro ?_ fun _ => ?_) | (refine Hold.intro fun _ => ?_) | (refine And.intro ?_ ?_))
  refine awp_loop [11, 12, 13, 14, 15, 18, 19, 20, 21, 22, 23, 24, 25, 26, 27, 28, 29, 30, 31, 32, 33, 34, 35, 36, 37, 38, 39, 40, 41, 16, 17, 4] (fun k : Fin (r.parts.length + 1) => [(4, (true, .int .i64 (k.1 : Nat)))])
    (fun k => hps [(6903, { base := 0, blks := [{ z := 5, els := [[lsV 6934 k.1, lsV 6940 k.1, .bsl 6909 0 no, .nil, .nil]], ty := 101, cl := false }] }),
      (6934, { base := 0, blks := prB (tkV (fun p : Pt => [.int .i64 p.hours, .int .i64 p.cycles]) r.parts k.1) }), (6940, { base := 0, blks := prB (List.replicate k.1 [.int .i64 (-1), .int .i64 (-1)]) }),
      (6909, { base := 0, blks := [{ z := 1, els := List.replicate no [.bool false], ty := 4 }] }), (6902, { base := 0, blks := [{ z := 5, els := [[.nil, .nil, .nil, .nil, .nil]], ty := 101 }] }),
      (6901, { base := 0, blks := [{ z := 4, els := [[.sl 3 (r.kinds.map Kd.row), .sl 4 (r.parts.map Pt.row), .int .i64 r.machines, .sl 2 (r.orders.map Od.row)]], ty := 26 }] })] noH) (fun k => r.parts.length - k.1) ⟨0, by omega⟩ ?_ ?_ ?_
  · simp [okAll, okv]
  · exact (by (try simp -dsimp only [hpush_noH, hpush_hps, hps_over]); refine hle_hps ?_; simp -dsimp [allK, prB_nil, lsV_zero]; repeat' (first | (refine And.intro ?_ ?_) | (refine sLe.same ?_ ?_ <;> (simp; done)) | (refine sLe.clear ?_ ?_ <;> (first | (simp; done) | (simp; omega))) | (refine sLe.drop 1 ?_ ?_ ?_ <;> (simp; done))))
  rintro ⟨k, hk⟩
  simp only
  by_cases hk1 : k < r.parts.length
  · have hki : (k : Int) < r.parts.length := by omega
    have wk : IntKind.wrap .i64 ((k : Int) + 1) = (k + 1 : Nat) := wrap_id (by omega) (by omega)
    obtain ⟨p, hp, hp'⟩ := get_ex hk1
    have hT := tkV_succ (fun p : Pt => [V.int .i64 p.hours, .int .i64 p.cycles]) hp
    have hTl := tkV_len (fun p : Pt => [V.int .i64 p.hours, .int .i64 p.cycles]) (l := r.parts) (k := k) (by omega)
    have hR : List.replicate (k + 1) [V.int .i64 (-1), .int .i64 (-1)] = List.replicate k [V.int .i64 (-1), .int .i64 (-1)] ++ [[.int .i64 (-1), .int .i64 (-1)]] := List.replicate_succ'
    have hP1 := prB_ne (rows := tkV (fun p : Pt => [V.int .i64 p.hours, .int .i64 p.cycles]) r.parts (k + 1)) (by rw [tkV_len _ (by omega)]; omega)
    have hP2 := prB_ne (rows := List.replicate (k + 1) [V.int .i64 (-1), .int .i64 (-1)]) (by simp)
    have hV1 := lsV_ne (k := 6934) (n := k + 1) (by omega)
    have hV2 := lsV_ne (k := 6940) (n := k + 1) (by omega)
    rw [hT] at hP1
    rw [hR] at hP2
    have hb8 : (k + 1) * 16 ≤ 140737488355328 := by omega
    generalize tkV (fun p : Pt => [V.int .i64 p.hours, .int .i64 p.cycles]) r.parts k = T at *
    generalize hQ : List.replicate k [V.int .i64 (-1), .int .i64 (-1)] = Q at *
    have hQl : Q.length = k := by rw [← hQ]; simp
    by_cases hk0 : k = 0
    · subst hk0
      have hTn : T = [] := List.length_eq_zero_iff.1 hTl
      have hQn : Q = [] := List.length_eq_zero_iff.1 hQl
      subst hTn
      subst hQn
      have hk2 : ¬ r.parts = [] := by rintro e; rw [e] at hk1; simp at hk1
      simp -dsimp [hki, hk1, hk2]
      repeat' (first | omega | (simp -dsimp [E69, ri, cellp, ints, FoOk, hki, hk1, hk2, hp, hp', wk, Pt.row, hb8, prB_nil, lsV_zero]) | (refine Also.intro ?_ fun _ => ?_) | (refine Hold.intro fun _ => ?_) | (refine And.intro ?_ ?_))
      refine ⟨⟨0 + 1, by omega⟩, tle_chain rfl ?_, (by (try simp -dsimp only [hpush_noH, hpush_hps, hps_over]); refine hle_hps ?_; simp -dsimp [allK, hT, hR, prB_one, hV1, hV2]; repeat' (first | (refine And.intro ?_ ?_) | (refine sLe.same ?_ ?_ <;> (simp; done)) | (refine sLe.clear ?_ ?_ <;> (first | (simp; done) | (simp; omega))) | (refine sLe.drop 1 ?_ ?_ ?_ <;> (simp; done)))), by simp only; omega⟩
      simp [okAll, okv]
      exact wk
    · have z1 := lsV_ne (k := 6934) (n := k) (by omega)
      have z2 := lsV_ne (k := 6940) (n := k) (by omega)
      have z3 := prB_ne (rows := T) (by omega)
      have z4 := prB_ne (rows := Q) (by omega)
      simp -dsimp [hki, z1, z2, z3, z4]
      repeat' (first | omega | (simp -dsimp [E69, ri, cellp, ints, FoOk, hki, hk1, hp, hp', wk, Pt.row, hb8, z1, z2, z3, z4, hTl, hQl]) | (refine Also.intro ?_ fun _ => ?_) | (refine Hold.intro fun _ => ?_) | (refine And.intro ?_ ?_))
      refine ⟨⟨k + 1, by omega⟩, tle_chain rfl ?_, (by (try simp -dsimp only [hpush_noH, hpush_hps, hps_over]); refine hle_hps ?_; simp -dsimp [allK, hT, hR, hP1, hP2, hV1, hV2]; repeat' (first | (refine And.intro ?_ ?_) | (refine sLe.same ?_ ?_ <;> (simp; done)) | (refine sLe.clear ?_ ?_ <;> (first | (simp; done) | (simp; omega))) | (refine sLe.drop 1 ?_ ?_ ?_ <;> (simp; done)))), by simp only; omega⟩
      simp [okAll, okv]
  have hkn : ¬ (k : Int) < r.parts.length := by omega
  have hke : k = r.parts.length := by omega
  subst hke
  simp -dsimp [hkn]
  repeat' (first | omega | (simp -dsimp [E69, ri, cellp, ints, hkn]) | (refine Also.intro ?_ fun _ => ?_) | (refine Hold.intro fun _ => ?_) | (refine And.intro ?_ ?_))
  clear hk hk1 hkn
  refine awp_loop [42, 43, 44, 45, 46, 49, 50, 51, 52, 53, 54, 55, 56, 57, 58, 59, 60, 61, 62, 63, 64, 65, 66, 47, 48, 5] (fun k : Fin (no + 1) => [(5, (true, .int .i64 (k.1 : Nat)))])
    (fun k => hps [(6903, { base := 0, blks := [{ z := 5, els := [[lsV 6934 r.parts.length, lsV 6940 r.parts.length, .bsl 6909 0 no, lsV 6956 k.1, lsV 6965 k.1]], ty := 101, cl := false }] }),
      (6956, { base := 0, blks := lsB (rgV 6954 k.1 r.parts.length) 37 }), (6954, { base := 0, blks := List.replicate k.1 { z := 1, els := List.replicate r.parts.length [.int .i64 0], ty := 3 } }),
      (6965, { base := 0, blks := lsB (rgV 6963 k.1 r.parts.length) 70 }), (6963, { base := 0, blks := List.replicate k.1 { z := 1, els := List.replicate r.parts.length [.bool false], ty := 4 } }),
      (6934, { base := 0, blks := prB (tkV (fun p : Pt => [.int .i64 p.hours, .int .i64 p.cycles]) r.parts r.parts.length) }), (6940, { base := 0, blks := prB (List.replicate r.parts.length [.int .i64 (-1), .int .i64 (-1)]) }),
      (6909, { base := 0, blks := [{ z := 1, els := List.replicate no [.bool false], ty := 4 }] }), (6955, { base := k.1, blks := [] }), (6964, { base := k.1, blks := [] }), (6902, { base := 0, blks := [{ z := 5, els := [[.nil, .nil, .nil, .nil, .nil]], ty := 101 }] }),
      (6901, { base := 0, blks := [{ z := 4, els := [[.sl 3 (r.kinds.map Kd.row), .sl 4 (r.parts.map Pt.row), .int .i64 r.machines, .sl 2 (r.orders.map Od.row)]], ty := 26 }] })] noH) (fun k => no - k.1) ⟨0, by omega⟩ ?_ ?_ ?_
  · simp [okAll, okv]
  · exact (by (try simp -dsimp only [hpush_noH, hpush_hps, hps_over]); refine hle_hps ?_; simp -dsimp [allK, rgV_zero, lsB_nil, lsV_zero]; repeat' (first | (refine And.intro ?_ ?_) | (refine sLe.same ?_ ?_ <;> (simp; done)) | (refine sLe.clear ?_ ?_ <;> (first | (simp; done) | (simp; omega))) | (refine sLe.drop 1 ?_ ?_ ?_ <;> (simp; done))))
  rintro ⟨k, hk⟩
  simp only
  by_cases hk1 : k < no
  · have hki : (k : Int) < no := by omega
    have wk : IntKind.wrap .i64 ((k : Int) + 1) = (k + 1 : Nat) := wrap_id (by omega) (by omega)
    have hR1 := rgV_succ 6954 k r.parts.length
    have hR2 := rgV_succ 6963 k r.parts.length
    have hl1 := rgV_len 6954 k r.parts.length
    have hl2 := rgV_len 6963 k r.parts.length
    have hP1 := lsB_ne (rows := rgV 6954 (k + 1) r.parts.length) (ty := 37) (by rw [rgV_len]; omega)
    have hP2 := lsB_ne (rows := rgV 6963 (k + 1) r.parts.length) (ty := 70) (by rw [rgV_len]; omega)
    rw [hR1] at hP1
    rw [hR2] at hP2
    have hV1 := lsV_ne (k := 6956) (n := k + 1) (by omega)
    have hV2 := lsV_ne (k := 6965) (n := k + 1) (by omega)
    have hQ1 : List.replicate (k + 1) ({ z := 1, els := List.replicate r.parts.length [V.int .i64 0], ty := 3 } : Blk) = List.replicate k { z := 1, els := List.replicate r.parts.length [V.int .i64 0], ty := 3 } ++ [{ z := 1, els := List.replicate r.parts.length [V.int .i64 0], ty := 3 }] := List.replicate_succ'
    have hQ2 : List.replicate (k + 1) ({ z := 1, els := List.replicate r.parts.length [V.bool false], ty := 4 } : Blk) = List.replicate k { z := 1, els := List.replicate r.parts.length [V.bool false], ty := 4 } ++ [{ z := 1, els := List.replicate r.parts.length [V.bool false], ty := 4 }] := List.replicate_succ'
    have hb8 : (k + 1) * 24 ≤ 140737488355328 := by omega
    have hn8 : (r.parts.length : Int) * 8 ≤ 140737488355328 := by omega
    have hn92 : (r.parts.length : Int) ≤ 9223372036854775807 := by omega
    by_cases hk0 : k = 0
    · subst hk0
      simp -dsimp [hki, hk1, ← hno]
      repeat' (first | omega | (simp -dsimp [E69, ri, cellp, ints, FoOk, hki, hk1, ← hno, wk, hb8, hn8, v2, rgV_zero, lsB_nil, lsV_zero]) | (refine Also.intro ?_ fun _ => ?_) | (refine Hold.intro fun _ => ?_) | (refine And.intro ?_ ?_))
      refine ⟨⟨0 + 1, by omega⟩, tle_chain rfl ?_, (by (try simp -dsimp only [hpush_noH, hpush_hps, hps_over]); refine hle_hps ?_; simp -dsimp [allK, hR1, hR2, rgV_zero, hV1, hV2, lsB]; repeat' (first | (refine And.intro ?_ ?_) | (refine sLe.same ?_ ?_ <;> (simp; done)) | (refine sLe.clear ?_ ?_ <;> (first | (simp; done) | (simp; omega))) | (refine sLe.drop 1 ?_ ?_ ?_ <;> (simp; done)))), by simp only; omega⟩
      simp [okAll, okv]
      exact wk
    · have z1 := lsV_ne (k := 6956) (n := k) (by omega)
      have z2 := lsV_ne (k := 6965) (n := k) (by omega)
      have z3 := lsB_ne (rows := rgV 6954 k r.parts.length) (ty := 37) (by rw [rgV_len]; omega)
      have z4 := lsB_ne (rows := rgV 6963 k r.parts.length) (ty := 70) (by rw [rgV_len]; omega)
      simp -dsimp [hki, z1, z2, z3, z4]
      repeat' (first | omega | (simp -dsimp [E69, ri, cellp, ints, FoOk, hki, hk1, ← hno, wk, hb8, hn8, v2, z1, z2, z3, z4, hl1, hl2]) | (refine Also.intro ?_ fun _ => ?_) | (refine Hold.intro fun _ => ?_) | (refine And.intro ?_ ?_))
      refine ⟨⟨k + 1, by omega⟩, tle_chain rfl ?_, (by (try simp -dsimp only [hpush_noH, hpush_hps, hps_over]); refine hle_hps ?_; simp -dsimp [allK, hR1, hR2, hP1, hP2, hV1, hV2, hQ1, hQ2]; repeat' (first | (refine And.intro ?_ ?_) | (refine sLe.same ?_ ?_ <;> (simp; done)) | (refine sLe.clear ?_ ?_ <;> (first | (simp; done) | (simp; omega))) | (refine sLe.drop 1 ?_ ?_ ?_ <;> (simp; done)))), by simp only; omega⟩
      simp [okAll, okv]
  have hkn : ¬ (k : Int) < no := by omega
  have hke : k = no := by omega
  subst hke
  have hL1 : ∀ h : Hp, h 6954 = { base := 0, blks := List.replicate k { z := 1, els := List.replicate r.parts.length [V.int .i64 0], ty := 3 } } → lendRs (lendN 2 h) (rgV 6954 k r.parts.length) = (True, List.replicate k [.sl 1 (List.replicate r.parts.length [V.int .i64 0])]) := fun h hh => lend_rows rfl (by simp) hh
  have hL2 : ∀ h : Hp, h 6963 = { base := 0, blks := List.replicate k { z := 1, els := List.replicate r.parts.length [V.bool false], ty := 4 } } → lendRs (lendN 2 h) (rgV 6963 k r.parts.length) = (True, List.replicate k [.sl 1 (List.replicate r.parts.length [V.bool false])]) := fun h hh => lend_rows rfl (by simp) hh
  have hrow : (RS.new r).row = [.sl 2 (r.parts.map fun p => [.int .i64 p.hours, .int .i64 p.cycles]), .sl 2 (List.replicate r.parts.length [.int .i64 (-1), .int .i64 (-1)]), .sl 1 (List.replicate k [.bool false]), if k = 0 then .nil else .sl 1 (List.replicate k [.sl 1 (List.replicate r.parts.length [.int .i64 0])]), if k = 0 then .nil else .sl 1 (List.replicate k [.sl 1 (List.replicate r.parts.length [.bool false])])] := by
    simp only [RS.row, RS.new, snV, dnV, ← hno, List.replicate_eq_nil_iff]
    simp [cycV, ints, bls, rb, ri, List.map_const']
  rw [hrow]
  clear hrow hk hk1
  by_cases hp0 : r.parts.length = 0
  · have hpn : r.parts = [] := List.length_eq_zero_iff.1 hp0
    by_cases hk0 : k = 0
    · subst hk0
      simp -dsimp [hkn]
      repeat' (first | omega | (simp -dsimp [E69, ri, cellp, ints, hkn, ← hno, hpn, lsV_zero, prB_nil, rgV_zero, lsB_nil]) | (refine Also.intro ?_ fun _ => ?_) | (refine Hold.intro fun _ => ?_) | (refine And.intro ?_ ?_))
    · have z1 := lsV_ne (k := 6956) (n := k) (by omega)
      have z2 := lsV_ne (k := 6965) (n := k) (by omega)
      have z3 := lsB_ne (rows := rgV 6954 k 0) (ty := 37) (by rw [rgV_len]; omega)
      have z4 := lsB_ne (rows := rgV 6963 k 0) (ty := 70) (by rw [rgV_len]; omega)
      have y3 := rgV_len 6954 k 0
      have y4 := rgV_len 6963 k 0
      rw [hp0] at hL1 hL2
      simp only [List.replicate_zero] at hL1 hL2
      simp -dsimp [hkn]
      repeat' (first | omega | (simp -dsimp [E69, ri, cellp, ints, hkn, ← hno, hpn, lsV_zero, prB_nil, hk0, z1, z2, z3, z4, y3, y4, hL1, hL2]) | (refine Also.intro ?_ fun _ => ?_) | (refine Hold.intro fun _ => ?_) | (refine And.intro ?_ ?_))
  · have z5 := lsV_ne (k := 6934) (n := r.parts.length) (by omega)
    have z6 := lsV_ne (k := 6940) (n := r.parts.length) (by omega)
    have z7 := prB_ne (rows := r.parts.map (fun p : Pt => [V.int .i64 p.hours, .int .i64 p.cycles])) (by simp; omega)
    have z8 := prB_ne (rows := List.replicate r.parts.length [V.int .i64 (-1), .int .i64 (-1)]) (by simp; omega)
    by_cases hk0 : k = 0
    · subst hk0
      simp -dsimp [hkn]
      repeat' (first | omega | (simp -dsimp [E69, ri, cellp, ints, hkn, ← hno, lsV_zero, z5, z6, z7, z8, tkV_all, rgV_zero, lsB_nil]) | (refine Also.intro ?_ fun _ => ?_) | (refine Hold.intro fun _ => ?_) | (refine And.intro ?_ ?_))
    · have z1 := lsV_ne (k := 6956) (n := k) (by omega)
      have z2 := lsV_ne (k := 6965) (n := k) (by omega)
      have z3 := lsB_ne (rows := rgV 6954 k r.parts.length) (ty := 37) (by rw [rgV_len]; omega)
      have z4 := lsB_ne (rows := rgV 6963 k r.parts.length) (ty := 70) (by rw [rgV_len]; omega)
      have y3 := rgV_len 6954 k r.parts.length
      have y4 := rgV_len 6963 k r.parts.length
      simp -dsimp [hkn]
      repeat' (first | omega | (simp -dsimp [E69, ri, cellp, ints, hkn, ← hno, z5, z6, z7, z8, tkV_all, hk0, z1, z2, z3, z4, y3, y4, hL1, hL2]) | (refine Also.intro ?_ fun _ => ?_) | (refine Hold.intro fun _ => ?_) | (refine And.intro ?_ ?_))
theorem ok69 : FnOK Tryz.prog 69 (.pure beginS) := pure_fn (E := E69) rfl LOK.nil (ok := [(10, ([2001], [[0, 1, 2, 3, 4, 5, 6, 7, 8, 9]])), (11, ([2001], [[0, 1, 2, 3, 4, 5, 6, 7, 8, 9]]))]) (fn := Tryz.f69) (by kernel_rfl) (by kernel_rfl) (by kernel_rfl) (by kernel_rfl) rfl (fun _ _ => by simp) b69
end Go.Sx
end
