/- A part of a proof; no conditions. -/
import Derived.Test.YtcbcajnkdknkdaaDoorP22
import Derived.Test.YtcbcajnkdknkdaaDoorP21
set_option linter.unusedSimpArgs false
set_option linter.unusedVariables false
set_option linter.unusedSectionVars false
section
/- Parts: History, the program's and the reference's. No conditions. -/
set_option linter.unusedSimpArgs false
set_option linter.unusedSectionVars false
set_option maxRecDepth 100000
set_option maxHeartbeats 4000000
namespace Go.Sx
open Go.Proofs
attribute [local irreducible] HLe
attribute [local simp] hps_app

def hstF (r : Reg) (l : List Wk) (n : Int) : List Stt := if opE r l = 0 then (if RS.partA r n = true then refH l n.toNat l.length else []) else []
def hstE (r : Reg) (l : List Wk) (n : Int) : Int := if opE r l = 0 then (if RS.partA r n = true then 0 else 1) else opE r l
noncomputable abbrev hstS : PSpec := mkP rnE RLN.Fine fun d => .tup [.sl 6 ((hstF d.r d.l d.n).map Stt.row), .int .i64 (hstE d.r d.l d.n)]
theorem lend_hb {s : HG} {i n : Nat} {l : List Stt} (hl : s.hb[i]? = some l) (hn : n = l.length) (h : Hp) : lend1 (Ob hgL s h) (.bsl 10215 i n) = (True, .sl 6 (l.map Stt.row)) := by
  subst hn
  simp [lend1, lendN, hl, hbB]
noncomputable abbrev E30 : Env := { P := Tryd.prog, fn := tbl [(50, .heap openHS), (61, .pure partS), (65, .heap endS)], own := [], key := 3000, nt := 53 }
theorem b30 : PureBody E30 [] Tryd.f30 hstS := by
  refine pb ?_
  rintro ⟨r, l, n⟩ hfn
  have hfn' : RL.Fine ⟨r, l⟩ := hfn
  have hFr : ∀ S : Site, FreshO (hps [(3003, S)] noH) := by
    intro S k hk
    simp only [hkeys, opOwn, List.cons_append, List.nil_append, List.mem_cons, List.not_mem_nil, or_false] at hk
    rcases hk with rfl | rfl | rfl | rfl | rfl | rfl | rfl | rfl | rfl | rfl | rfl | rfl | rfl | rfl | rfl | rfl <;> simp
  by_cases hE : opE r l = 0
  case neg =>
    have hR : hstF r l n = [] := by simp [hstF, hE]
    have hR2 : hstE r l n = opE r l := by simp [hstE, hE]
    have hV : opV r l = .tup [.nilp, .int .i64 (opA r l), .int .i64 (opE r l)] := by simp [opV, hE]
    have hO : ∀ h, opO r l h = opD h := fun h => by simp [opO, hE]
    simp -dsimp [Tryd.f30, E30, Reg.row]
    repeat' (first | omega | (simp -dsimp [E30, ri, cellp, ints, openH_go, hfn', hFr, hV, hO, hE, hR, hR2]) | (refine Also.intro ?_ fun _ => ?_) | (refine Hold.intro fun _ => ?_) | (refine And.intro ?_ ?_))
  obtain ⟨hWf, hRel⟩ := opE_rel hE
  obtain ⟨v1, v2, v3, v4, v5, v6, v7, v8⟩ := valid_facts hWf.val
  have hV : opV r l = .tup [.bptr 8619 0 1 0 0, .int .i64 (opA r l), .int .i64 0] := by simp [opV, hE]
  have hO : ∀ h, opO r l h = Ob hgL (opH r l) (opC h) := fun h => by simp [opO, hE]
  have hOk := opE_ok hE
  have hHk := hOk.hok
  have hpq := hRel.partq n
  cases hp : RS.partA r n
  · rw [hp] at hpq
    have hR : hstF r l n = [] := by simp [hstF, hE, hp]
    have hR2 : hstE r l n = 1 := by simp [hstE, hE, hp]
    generalize hs : opH r l = s at *
    simp -dsimp [Tryd.f30, E30, Reg.row, -lendN, -lend1]
    repeat' (first | omega | (simp -dsimp [E30, ri, cellp, ints, -lendN, -lend1, openH_go, hfn', hFr, hV, hO, opC, hHk, HI.v, hiE_dec', hpq, hR, hR2]) | (refine Also.intro ?_ fun _ => ?_) | (refine Hold.intro fun _ => ?_) | (refine And.intro ?_ ?_))
  rw [hp] at hpq
  obtain ⟨pi, rfl, hpi⟩ := withinB_nat (m := r.parts.length) (by omega) hp
  have hview := opE_view hE hpi
  have hR : hstF r l pi = (opH r l).view pi := by simp [hstF, hE, hp, hview]
  have hR2 : hstE r l pi = 0 := by simp [hstE, hE, hp]
  have hlen := refH_len l pi l.length
  rw [← hview] at hlen
  have hrl := hRel.psl
  rw [hR, hR2]
  clear hview hR hR2 hWf hRel
  generalize hs : opH r l = s at *
  have hpl : pi < s.ps.length := by omega
  obtain ⟨p, hpk, hpk'⟩ := get_ex hpl
  have hgp : s.ps.getD pi default = p := by simp [List.getD, hpk]
  have hhl : pi < s.hi.length := by rw [hOk.hil]; omega
  obtain ⟨o, ho, ho'⟩ := get_ex hhl
  have hpts := ptsV_ne (n := s.ps.length) (by omega)
  have hptB := ptsB_ne (n := s.ps.length) (by omega)
  have hmx := mapIdx_get hpk
  have hni : (pi : Int) < s.ps.length := by omega
  by_cases hpa : 0 ≤ p.a
  · obtain ⟨_, i, l0, hh1, hh2⟩ := hOk.at_ pi p hpk hpa
    have hpa' : ¬ p.a < 0 := by omega
    have hoi : o = some (i, l0.length) := by rw [ho] at hh1; exact Option.some.inj hh1
    subst hoi
    have hV2 : s.view pi = endL s.fl s.wk l0 := by rw [HG.view, hgp, if_pos hpa, rows_some ho]; simp [List.getD, hh2.at_]
    have hE2 : ∃ l', EndOk s i l' ∧ l0.length = l'.length := ⟨l0, hh2, rfl⟩
    have hib : i < s.hb.length := (List.getElem?_eq_some_iff.1 hh2.at_).1
    have hhb : (s.endd i s.wk).hb[i]? = some (endL s.fl s.wk l0) := by
      have : s.hb.getD i [] = l0 := by simp [List.getD, hh2.at_]
      simp only [HG.endd, this]
      simp [hib]
    have hel := endL_len s.fl s.wk l0
    have hld := lend_hb hhb hel.symm
    rw [hV2]
    simp -dsimp [Tryd.f30, E30, Reg.row, -lendN, -lend1]
    repeat' (first | omega | (simp -dsimp [E30, ri, cellp, ints, -lendN, -lend1, openH_go, hfn', hFr, hV, hO, opC, hHk, HI.v, hiE_dec', hpq, hni, hpl, hpk, hpk', hpts, hptB, hmx, PS.blk, PS.row, hpa, hhl, ho, ho', hiV_some, end_go, hE2, hld]) | (refine Also.intro ?_ fun _ => ?_) | (refine Hold.intro fun _ => ?_) | (refine And.intro ?_ ?_))
    done
  · have hV2 : s.view pi = s.rowsOf pi := by rw [HG.view, hgp, if_neg hpa]
    have hpa' : p.a < 0 := by omega
    rw [hV2]
    rcases o with _ | ⟨i, m⟩
    · rw [rows_none ho]
      simp -dsimp [Tryd.f30, E30, Reg.row, -lendN, -lend1]
      repeat' (first | omega | (simp -dsimp [E30, ri, cellp, ints, -lendN, -lend1, openH_go, hfn', hFr, hV, hO, opC, hHk, HI.v, hiE_dec', hpq, hni, hpl, hpk, hpk', hpts, hptB, hmx, PS.blk, PS.row, hpa, hpa', hhl, ho, ho', hiV_none]) | (refine Also.intro ?_ fun _ => ?_) | (refine Hold.intro fun _ => ?_) | (refine And.intro ?_ ?_))
      done
    · obtain ⟨l0, y1, y2⟩ := hHk.hi _ (List.mem_of_getElem? ho) i m rfl
      have y3 : s.rowsOf pi = l0 := by rw [rows_some ho]; simp [List.getD, y1]
      have hib : i < s.hb.length := (List.getElem?_eq_some_iff.1 y1).1
      have hld := lend_hb y1 y2.symm
      rw [y3]
      simp -dsimp [Tryd.f30, E30, Reg.row, -lendN, -lend1]
      repeat' (first | omega | (simp -dsimp [E30, ri, cellp, ints, -lendN, -lend1, openH_go, hfn', hFr, hV, hO, opC, hHk, HI.v, hiE_dec', hpq, hni, hpl, hpk, hpk', hpts, hptB, hmx, PS.blk, PS.row, hpa, hpa', hhl, ho, ho', hiV_some, hld]) | (refine Also.intro ?_ fun _ => ?_) | (refine Hold.intro fun _ => ?_) | (refine And.intro ?_ ?_))
      done
theorem ok30 : FnOK Tryd.prog 30 (.pure hstS) := pure_fn (E := E30) rfl (.cons H50.ok50 (.cons ok61 (.cons ok65 .nil))) (ok := []) (fn := Tryd.f30) (by kernel_rfl) (by kernel_rfl) (by kernel_rfl) (by kernel_rfl) rfl (fun _ _ => by simp) b30
end Go.Sx
end
section
/- Parts: History, the reference's. No conditions. -/
set_option linter.unusedSimpArgs false
set_option linter.unusedSectionVars false
set_option maxRecDepth 100000
set_option maxHeartbeats 4000000
namespace Go.Sx
open Go.Proofs
attribute [local irreducible] HLe
attribute [local simp] hps_app

noncomputable abbrev E31 : Env := { P := Tryd.prog, fn := tbl [(25, .pure checkFS), (63, .pure withinS)], own := [], key := 3100, nt := 137 }
theorem b31 : PureBody E31 [(11, ([2, 4, 7, 9], [[0, 1, 2, 3, 4, 5, 6, 7, 8, 9, 10, 11, 12, 13, 14, 15]]))] Tryd.f31 hstS := by
  refine pb ?_
  rintro ⟨r, l, n⟩ hfn
  have hfn' : RL.Fine ⟨r, l⟩ := hfn
  by_cases hE : opE r l = 0
  case neg =>
    have hR : hstF r l n = [] := by simp [hstF, hE]
    have hR2 : hstE r l n = opE r l := by simp [hstE, hE]
    simp -dsimp [Tryd.f31, E31, Reg.row]
    repeat' (first | omega | (simp -dsimp [E31, ri, cellp, ints, rlE_dec', hfn', hE, hR, hR2]) | (refine Also.intro ?_ fun _ => ?_) | (refine Hold.intro fun _ => ?_) | (refine And.intro ?_ ?_))
  obtain ⟨hWf, hRel⟩ := opE_rel hE
  obtain ⟨v1, v2, v3, v4, v5, v6, v7, v8⟩ := valid_facts hWf.val
  cases hp : RS.partA r n
  · have hR : hstF r l n = [] := by simp [hstF, hE, hp]
    have hR2 : hstE r l n = 1 := by simp [hstE, hE, hp]
    simp only [RS.partA, wsub] at hp
    simp -dsimp [Tryd.f31, E31, Reg.row]
    repeat' (first | omega | (simp -dsimp [E31, ri, cellp, ints, rlE_dec', hfn', hE, hp, hR, hR2]) | (refine Also.intro ?_ fun _ => ?_) | (refine Hold.intro fun _ => ?_) | (refine And.intro ?_ ?_))
  obtain ⟨p, rfl, hpi⟩ := withinB_nat (m := r.parts.length) (by omega) hp
  have hR : hstF r l p = refH l p l.length := by simp [hstF, hE, hp]
  have hR2 : hstE r l p = 0 := by simp [hstE, hE, hp]
  simp only [RS.partA, wsub] at hp
  have hl2 : l.length ≤ 200 := (opE_inv hE).2.1
  have hflb := fun (t : Nat) (ht : t ≤ l.length) => opE_flb hE ht
  rw [hR, hR2]
  clear hR hR2
  simp -dsimp [Tryd.f31, E31, Reg.row]
  repeat' (first | omega | (simp -dsimp [E31, ri, cellp, ints, rlE_dec', hfn', hE, hp]) | (refine Also.intro ?_ fun _ => ?_) | (refine Hold.intro fun _ => ?_) | (refine And.intro ?_ ?_))
  refine awp_loop_g [(10, 3235, 6, 61)] rfl (by simp) [31, 32, 33, 34, 37, 38, 39, 40, 41, 42, 43, 44, 45, 46, 47, 48, 49, 50, 51, 52, 53, 54, 55, 56, 57, 58, 59, 60, 61, 62, 63, 64, 65, 12, 66, 67, 68, 13, 69, 70, 71, 74, 75, 76, 77, 78, 79, 80, 81, 82, 83, 84, 85, 86, 87, 88, 89, 90, 72, 73, 91, 14, 92, 93, 94, 95, 98, 99, 100, 101, 102, 103, 104, 105, 106, 107, 108, 109, 110, 111, 112, 113, 114, 115, 116, 117, 118, 119, 120, 121, 122, 123, 124, 125, 126, 127, 128, 129, 130, 131, 96, 97, 132, 133, 134, 135, 10, 35, 36, 11] (fun k : Fin (l.length + 1) => [(11, (true, .int .i64 (k.1 : Nat))), (10, (true, .bsl 3235 0 (fs l p k.1).length))])
    (fun k => hps [(3235, { base := 0, blks := [{ z := 6, els := ((fs l p k.1).map (stF l p l.length)).map Stt.row, ty := 61 }] }), (3112, { base := k.1, blks := [] }), (3103, { base := 1, blks := [] })] noH) (fun k => l.length - k.1) ⟨0, by omega⟩ ?_ ?_ ?_
  · simp [okAll, okv, fs]
  · exact (by (try simp -dsimp only [hpush_noH, hpush_hps, hps_over]); refine hle_hps ?_; simp -dsimp [allK, fs]; repeat' (first | (refine And.intro ?_ ?_) | (refine sLe.same ?_ ?_ <;> (simp; done)) | (refine sLe.clear ?_ ?_ <;> (first | (simp; done) | (simp; omega))) | (refine sLe.drop 1 ?_ ?_ ?_ <;> (simp; done))))
  rintro ⟨i, hk⟩
  simp only
  by_cases hk1 : i < l.length
  case neg =>
    have hkn : ¬ (i : Int) < l.length := by omega
    have hke : i = l.length := by omega
    subst hke
    have hRf : (refH l p l.length).map Stt.row = ((fs l p l.length).map (stF l p l.length)).map Stt.row := rfl
    simp -dsimp [hkn]
    repeat' (first | omega | (simp -dsimp [E31, ri, cellp, ints, hkn, hRf]) | (refine Also.intro ?_ fun _ => ?_) | (refine Hold.intro fun _ => ?_) | (refine And.intro ?_ ?_))
  have hki : (i : Int) < l.length := by omega
  have hwk : IntKind.wrap .i64 ((i : Int) + 1) = (i + 1 : Nat) := wrap_id (by omega) (by omega)
  obtain ⟨w, hw, hw'⟩ := get_ex hk1
  have hwa : wkAt l i = w := by simp [wkAt, List.getD, hw]
  have hfl := fs_len (l := l) (p := p) i
  by_cases c2 : w.kind = 2
  case neg =>
    have hfn : (wkAt l i).fits p = false := by rw [hwa]; simp [Wk.fits, c2]
    have c2' : (w.kind = 2) = False := eq_false c2
    have hP := fs_no hfn
    simp -dsimp [hki]
    repeat' (first | omega | (simp -dsimp [E31, ri, cellp, ints, hki, hk1, hw, hw', Wk.row, c2', hwk]) | (refine Also.intro ?_ fun _ => ?_) | (refine Hold.intro fun _ => ?_) | (refine And.intro ?_ ?_))
    refine ⟨⟨i + 1, by omega⟩, tle_chain rfl ?_, (by (try simp -dsimp only [hpush_noH, hpush_hps, hps_over]); refine hle_hps ?_; simp -dsimp [allK, hP]; repeat' (first | (refine And.intro ?_ ?_) | (refine sLe.same ?_ ?_ <;> (simp; done)) | (refine sLe.clear ?_ ?_ <;> (first | (simp; done) | (simp; omega))) | (refine sLe.drop 1 ?_ ?_ ?_ <;> (simp; done)))), by simp only; omega⟩
    simp [okAll, okv, hP]
  by_cases ca : w.a = (p : Int)
  case neg =>
    have hfn : (wkAt l i).fits p = false := by rw [hwa]; simp [Wk.fits, ca]
    have ca' : (w.a = (p : Int)) = False := eq_false ca
    have hP := fs_no hfn
    simp -dsimp [hki]
    repeat' (first | omega | (simp -dsimp [E31, ri, cellp, ints, hki, hk1, hw, hw', Wk.row, c2, ca', hwk]) | (refine Also.intro ?_ fun _ => ?_) | (refine Hold.intro fun _ => ?_) | (refine And.intro ?_ ?_))
    refine ⟨⟨i + 1, by omega⟩, tle_chain rfl ?_, (by (try simp -dsimp only [hpush_noH, hpush_hps, hps_over]); refine hle_hps ?_; simp -dsimp [allK, hP]; repeat' (first | (refine And.intro ?_ ?_) | (refine sLe.same ?_ ?_ <;> (simp; done)) | (refine sLe.clear ?_ ?_ <;> (first | (simp; done) | (simp; omega))) | (refine sLe.drop 1 ?_ ?_ ?_ <;> (simp; done)))), by simp only; omega⟩
    simp [okAll, okv, hP]
  have hfy : (wkAt l i).fits p = true := by rw [hwa]; simp [Wk.fits, c2, ca]
  have hP := fs_yes hfy
  have hb8 : ((fs l p i).length + 1) * 48 ≤ 140737488355328 := by omega
  generalize hF : fs l p i = F at *
  have hn1 : IntKind.wrap .i64 ((l.length : Int) - 1) = (l.length - 1 : Nat) := by rw [wrap_id (by omega) (by omega)]; omega
  have hst : stF l p l.length i = ⟨w.b, w.c, i, toN l p i l.length, (sumF l w.b i (toN l p i l.length)).1, (sumF l w.b i (toN l p i l.length)).2⟩ := by simp only [stF, stV, hwa]
  have ht0 : toN l p (l.length - 1) l.length = l.length := toN_ge (by omega)
  simp -dsimp [hki]
  repeat' (first | omega | (simp -dsimp [E31, ri, cellp, ints, hki, hk1, hw, hw', Wk.row, c2, ca, FreeAt, hn1]) | (refine Also.intro ?_ fun _ => ?_) | (refine Hold.intro fun _ => ?_) | (refine And.intro ?_ ?_))
  refine awp_loop [69, 70, 71, 74, 75, 76, 77, 78, 79, 80, 81, 82, 83, 84, 85, 86, 87, 88, 89, 90, 72, 73, 13] (fun j : { j : Nat // i ≤ j ∧ j < l.length } => [(13, (true, .int .i64 (j.1 : Nat)))])
    (fun j => hps [(3235, { base := 0, blks := [{ z := 6, els := (F.map (stF l p l.length)).map Stt.row, ty := 61 }] }), (3112, { base := i, blks := [{ z := 6, els := [[.int .i64 w.b, .int .i64 w.c, .int .i64 (i : Nat), .int .i64 (toN l p j.1 l.length : Nat), .int .i64 0, .int .i64 0]], ty := 61 }] }), (3103, { base := 1, blks := [] })] noH) (fun j => j.1) ⟨l.length - 1, by omega⟩ ?_ ?_ ?_
  · simp [okAll, okv]
  · exact (by (try simp -dsimp only [hpush_noH, hpush_hps, hps_over]); refine hle_hps ?_; simp -dsimp [allK, ht0]; repeat' (first | (refine And.intro ?_ ?_) | (refine sLe.same ?_ ?_ <;> (simp; done)) | (refine sLe.clear ?_ ?_ <;> (first | (simp; done) | (simp; omega))) | (refine sLe.drop 1 ?_ ?_ ?_ <;> (simp; done))))
  rintro ⟨j, hj1, hj2⟩
  simp only
  by_cases hji : i < j
  · obtain ⟨j', rfl⟩ : ∃ j', j = j' + 1 := ⟨j - 1, by omega⟩
    have hc1 : (i : Int) < ((j' + 1 : Nat) : Int) := by omega
    have hjl : ((j' + 1 : Nat) : Int) < l.length := by omega
    have hwj : IntKind.wrap .i64 (((j' + 1 : Nat) : Int) - 1) = (j' : Nat) := by rw [wrap_id (by omega) (by omega)]; omega
    have hwj2 : IntKind.wrap .i64 (j' : Int) = (j' : Nat) := wrap_id (by omega) (by omega)
    obtain ⟨u, hu, hu'⟩ := get_ex hj2
    have hua : wkAt l (j' + 1) = u := by simp [wkAt, List.getD, hu]
    have hpr := toN_pred (l := l) (p := p) (j := j') (n := l.length) hj2
    rw [hua] at hpr
    by_cases u3 : u.kind = 3
    case neg =>
      have u3' : (u.kind = 3) = False := eq_false u3
      have htk : u.takes p = false := by simp [Wk.takes, u3]
      rw [htk, if_neg (by simp)] at hpr
      simp -dsimp [hc1]
      repeat' (first | omega | (simp -dsimp [E31, ri, cellp, ints, hc1, hjl, hj2, hu, hu', Wk.row, u3', hwj, hwj2]) | (refine Also.intro ?_ fun _ => ?_) | (refine Hold.intro fun _ => ?_) | (refine And.intro ?_ ?_))
      refine ⟨j', tle_chain rfl ?_, (by (try simp -dsimp only [hpush_noH, hpush_hps, hps_over]); refine hle_hps ?_; simp -dsimp [allK, hpr]; repeat' (first | (refine And.intro ?_ ?_) | (refine sLe.same ?_ ?_ <;> (simp; done)) | (refine sLe.clear ?_ ?_ <;> (first | (simp; done) | (simp; omega))) | (refine sLe.drop 1 ?_ ?_ ?_ <;> (simp; done)))), ⟨by omega, by omega⟩, by omega⟩
      simp [okAll, okv]
    by_cases ua : u.a = (p : Int)
    case neg =>
      have ua' : (u.a = (p : Int)) = False := eq_false ua
      have htk : u.takes p = false := by simp [Wk.takes, ua]
      rw [htk, if_neg (by simp)] at hpr
      simp -dsimp [hc1]
      repeat' (first | omega | (simp -dsimp [E31, ri, cellp, ints, hc1, hjl, hj2, hu, hu', Wk.row, u3, ua', hwj, hwj2]) | (refine Also.intro ?_ fun _ => ?_) | (refine Hold.intro fun _ => ?_) | (refine And.intro ?_ ?_))
      refine ⟨j', tle_chain rfl ?_, (by (try simp -dsimp only [hpush_noH, hpush_hps, hps_over]); refine hle_hps ?_; simp -dsimp [allK, hpr]; repeat' (first | (refine And.intro ?_ ?_) | (refine sLe.same ?_ ?_ <;> (simp; done)) | (refine sLe.clear ?_ ?_ <;> (first | (simp; done) | (simp; omega))) | (refine sLe.drop 1 ?_ ?_ ?_ <;> (simp; done)))), ⟨by omega, by omega⟩, by omega⟩
      simp [okAll, okv]
    have htk : u.takes p = true := by simp [Wk.takes, u3, ua]
    rw [htk, if_pos rfl] at hpr
    simp -dsimp [hc1]
    repeat' (first | omega | (simp -dsimp [E31, ri, cellp, ints, hc1, hjl, hj2, hu, hu', Wk.row, u3, ua, hwj, hwj2]) | (refine Also.intro ?_ fun _ => ?_) | (refine Hold.intro fun _ => ?_) | (refine And.intro ?_ ?_))
    refine ⟨j', tle_chain rfl ?_, (by (try simp -dsimp only [hpush_noH, hpush_hps, hps_over]); refine hle_hps ?_; simp -dsimp [allK, hpr]; repeat' (first | (refine And.intro ?_ ?_) | (refine sLe.same ?_ ?_ <;> (simp; done)) | (refine sLe.clear ?_ ?_ <;> (first | (simp; done) | (simp; omega))) | (refine sLe.drop 1 ?_ ?_ ?_ <;> (simp; done)))), ⟨by omega, by omega⟩, by omega⟩
    simp [okAll, okv]
  have hc1 : ¬ (i : Int) < (j : Nat) := by omega
  have hji2 : j = i := by omega
  subst hji2
  have hTl := toN_le (l := l) (p := p) j l.length
  have hTg := toN_gt (l := l) (p := p) (i := j) (n := l.length) hk1
  have hs0 := sumF_ge (l := l) w.b (Nat.le_refl j)
  generalize hT : toN l p j l.length = T at *
  simp -dsimp [hc1]
  repeat' (first | omega | (simp -dsimp [E31, ri, cellp, ints, hc1]) | (refine Also.intro ?_ fun _ => ?_) | (refine Hold.intro fun _ => ?_) | (refine And.intro ?_ ?_))
  refine awp_loop [92, 93, 94, 95, 98, 99, 100, 101, 102, 103, 104, 105, 106, 107, 108, 109, 110, 111, 112, 113, 114, 115, 116, 117, 118, 119, 120, 121, 122, 123, 124, 125, 126, 127, 128, 129, 130, 131, 96, 97, 14] (fun t : { t : Nat // j ≤ t ∧ t ≤ T } => [(14, (true, .int .i64 (t.1 : Nat)))])
    (fun t => hps [(3235, { base := 0, blks := [{ z := 6, els := (F.map (stF l p l.length)).map Stt.row, ty := 61 }] }), (3112, { base := j, blks := [{ z := 6, els := [[.int .i64 w.b, .int .i64 w.c, .int .i64 (j : Nat), .int .i64 (T : Nat), .int .i64 (sumF l w.b j t.1).1, .int .i64 (sumF l w.b j t.1).2]], ty := 61 }] }), (3103, { base := 1, blks := [] })] noH) (fun t => T - t.1) ⟨j, by omega⟩ ?_ ?_ ?_
  · simp [okAll, okv]
  · exact (by (try simp -dsimp only [hpush_noH, hpush_hps, hps_over]); refine hle_hps ?_; simp -dsimp [allK, hs0]; repeat' (first | (refine And.intro ?_ ?_) | (refine sLe.same ?_ ?_ <;> (simp; done)) | (refine sLe.clear ?_ ?_ <;> (first | (simp; done) | (simp; omega))) | (refine sLe.drop 1 ?_ ?_ ?_ <;> (simp; done))))
  rintro ⟨t, ht1, ht2⟩
  simp only
  by_cases htT : t < T
  · have hc2 : (t : Int) < (T : Nat) := by omega
    have htl : t < l.length := by omega
    have hti : (t : Int) < l.length := by omega
    have hwt : IntKind.wrap .i64 ((t : Int) + 1) = (t + 1 : Nat) := wrap_id (by omega) (by omega)
    obtain ⟨u, hu, hu'⟩ := get_ex htl
    have hua : wkAt l t = u := by simp [wkAt, List.getD, hu]
    have hnx := sumF_next (l := l) w.b (i := j) (j := t) ht1
    have hb1 := hflb t (by omega) w.b j
    have hb2 := hflb (t + 1) (by omega) w.b j
    by_cases u1 : u.kind = 1
    case neg =>
      have u1' : (u.kind = 1) = False := eq_false u1
      have hf0 : fl1 l w.b t = (0, 0) := by simp [fl1, hua, u1]
      rw [hf0] at hnx
      simp only [Int.add_zero] at hnx
      simp -dsimp [hc2]
      repeat' (first | omega | (simp -dsimp [E31, ri, cellp, ints, hc2, htl, hti, hu, hu', Wk.row, u1', hwt]) | (refine Also.intro ?_ fun _ => ?_) | (refine Hold.intro fun _ => ?_) | (refine And.intro ?_ ?_))
      refine ⟨t + 1, tle_chain rfl ?_, (by (try simp -dsimp only [hpush_noH, hpush_hps, hps_over]); refine hle_hps ?_; simp -dsimp [allK, hnx]; repeat' (first | (refine And.intro ?_ ?_) | (refine sLe.same ?_ ?_ <;> (simp; done)) | (refine sLe.clear ?_ ?_ <;> (first | (simp; done) | (simp; omega))) | (refine sLe.drop 1 ?_ ?_ ?_ <;> (simp; done)))), ⟨by omega, by omega⟩, by omega⟩
      simp [okAll, okv]
    by_cases ub : u.a = w.b
    case neg =>
      have ub' : (u.a = w.b) = False := eq_false ub
      have hf0 : fl1 l w.b t = (0, 0) := by simp [fl1, hua, ub]
      rw [hf0] at hnx
      simp only [Int.add_zero] at hnx
      simp -dsimp [hc2]
      repeat' (first | omega | (simp -dsimp [E31, ri, cellp, ints, hc2, htl, hti, hu, hu', Wk.row, u1, ub', hwt]) | (refine Also.intro ?_ fun _ => ?_) | (refine Hold.intro fun _ => ?_) | (refine And.intro ?_ ?_))
      refine ⟨t + 1, tle_chain rfl ?_, (by (try simp -dsimp only [hpush_noH, hpush_hps, hps_over]); refine hle_hps ?_; simp -dsimp [allK, hnx]; repeat' (first | (refine And.intro ?_ ?_) | (refine sLe.same ?_ ?_ <;> (simp; done)) | (refine sLe.clear ?_ ?_ <;> (first | (simp; done) | (simp; omega))) | (refine sLe.drop 1 ?_ ?_ ?_ <;> (simp; done)))), ⟨by omega, by omega⟩, by omega⟩
      simp [okAll, okv]
    have hf0 : fl1 l w.b t = (u.b, u.c) := by simp [fl1, hua, u1, ub]
    rw [hf0] at hnx
    rw [hnx] at hb2
    simp only at hb2
    have w1 : IntKind.wrap .i64 ((sumF l w.b j t).1 + u.b) = (sumF l w.b j t).1 + u.b := wrap_id (by omega) (by omega)
    have w2 : IntKind.wrap .i64 ((sumF l w.b j t).2 + u.c) = (sumF l w.b j t).2 + u.c := wrap_id (by omega) (by omega)
    simp -dsimp [hc2]
    repeat' (first | omega | (simp -dsimp [E31, ri, cellp, ints, hc2, htl, hti, hu, hu', Wk.row, u1, ub, hwt, w1, w2]) | (refine Also.intro ?_ fun _ => ?_) | (refine Hold.intro fun _ => ?_) | (refine And.intro ?_ ?_))
    refine ⟨t + 1, tle_chain rfl ?_, (by (try simp -dsimp only [hpush_noH, hpush_hps, hps_over]); refine hle_hps ?_; simp -dsimp [allK, hnx]; repeat' (first | (refine And.intro ?_ ?_) | (refine sLe.same ?_ ?_ <;> (simp; done)) | (refine sLe.clear ?_ ?_ <;> (first | (simp; done) | (simp; omega))) | (refine sLe.drop 1 ?_ ?_ ?_ <;> (simp; done)))), ⟨by omega, by omega⟩, by omega⟩
    simp [okAll, okv]
  have hc2 : ¬ (t : Int) < (T : Nat) := by omega
  have htT2 : t = T := by omega
  subst htT2
  simp -dsimp [hc2]
  repeat' (first | omega | (simp -dsimp [E31, ri, cellp, ints, hc2, hb8, hwk]) | (refine Also.intro ?_ fun _ => ?_) | (refine Hold.intro fun _ => ?_) | (refine And.intro ?_ ?_))
  refine ⟨⟨j + 1, by omega⟩, tle_kept (kept_upds rfl (kept_forget rfl (kept_upds rfl (kept_forget rfl (kept_upds rfl kept_base))))) ?_, (by (try simp -dsimp only [hpush_noH, hpush_hps, hps_over]); refine hle_hps ?_; simp -dsimp [allK, hP, hst, Stt.row]; repeat' (first | (refine And.intro ?_ ?_) | (refine sLe.same ?_ ?_ <;> (simp; done)) | (refine sLe.clear ?_ ?_ <;> (first | (simp; done) | (simp; omega))) | (refine sLe.drop 1 ?_ ?_ ?_ <;> (simp; done)))), by simp only; omega⟩
  simp [okAll, okv, hP]
theorem ok31 : FnOK Tryd.prog 31 (.pure hstS) := pure_fn (E := E31) rfl (.cons ok25 (.cons ok63 .nil)) (ok := [(11, ([2, 4, 7, 9], [[0, 1, 2, 3, 4, 5, 6, 7, 8, 9, 10, 11, 12, 13, 14, 15]]))]) (fn := Tryd.f31) (by kernel_rfl) (by kernel_rfl) (by kernel_rfl) (by kernel_rfl) rfl (fun _ _ => by simp) b31
end Go.Sx
end
section
/- Parts: the law about what is left, and histories. No conditions. -/
set_option linter.unusedSimpArgs false
set_option linter.unusedSectionVars false
set_option maxRecDepth 100000
set_option maxHeartbeats 4000000
namespace Go.Sx
open Go.Proofs
attribute [local irreducible] HLe
attribute [local simp] hps_app

theorem hstF_len (r : Reg) (l : List Wk) (n : Int) : (hstF r l n).length ≤ l.length := by
  unfold hstF
  split
  · split
    · exact refH_len _ _ _
    · simp
  · simp
noncomputable abbrev lawLfS : PSpec := mkP rnE RLN.Fine fun _ => .bool true
noncomputable abbrev E7 : Env := { P := Tryd.prog, fn := tbl [(15, .pure worksS), (24, .pure longS), (28, .pure leftFS), (29, .pure leftFS), (30, .pure hstS), (31, .pure hstS)], own := [], key := 700, nt := 88 }
theorem b7 : PureBody E7 [] Tryd.f7 lawLfS := by
  refine pb ?_
  rintro ⟨r, l, n⟩ hfn
  have hfn : RLN.Fine ⟨r, l, n⟩ := hfn
  have hl : l.length ≤ 9223372036854775807 := hfn.2.2.2
  have hX := hstF_len r l n
  cases h : longB l
  case true =>
    simp -dsimp [Tryd.f7, E7, Reg.row]
    repeat' (first | omega | (simp -dsimp [E7, ri, cellp, ints, wkE_dec, hl, h]) | (refine Also.intro ?_ fun _ => ?_) | (refine Hold.intro fun _ => ?_) | (refine And.intro ?_ ?_))
  simp -dsimp [Tryd.f7, E7, Reg.row]
  repeat' (first | omega | (simp -dsimp [E7, ri, cellp, ints, rnE_dec', wkE_dec, hl, hfn, h]) | (refine Also.intro ?_ fun _ => ?_) | (refine Hold.intro fun _ => ?_) | (refine And.intro ?_ ?_))
  refine awp_loop [72, 73, 74, 75, 78, 79, 80, 81, 82, 83, 84, 85, 86, 6, 76, 77, 15] (fun k : Fin ((hstF r l n).length + 1) => [(15, (true, .int .i64 (k.1 : Nat)))]) (fun _ => hps [(703, { base := 1, blks := [] })] noH) (fun k => (hstF r l n).length - k.1) ⟨0, by omega⟩ ?_ ?_ ?_
  · simp [okAll, okv]
  · exact (by (try simp -dsimp only [hpush_noH, hpush_hps, hps_over]); refine hle_hps ?_; simp -dsimp [allK, ]; repeat' (first | (refine And.intro ?_ ?_) | (refine sLe.same ?_ ?_ <;> (simp; done)) | (refine sLe.clear ?_ ?_ <;> (first | (simp; done) | (simp; omega))) | (refine sLe.drop 1 ?_ ?_ ?_ <;> (simp; done))))
  generalize hstF r l n = X at *
  rintro ⟨k, hk⟩
  simp only
  by_cases hk1 : k < X.length
  · have hki : (k : Int) < X.length := by omega
    have hwk : IntKind.wrap .i64 ((k : Int) + 1) = (k + 1 : Nat) := wrap_id (by omega) (by omega)
    obtain ⟨t, ht, ht'⟩ := get_ex hk1
    simp -dsimp [hki]
    repeat' (first | omega | (simp -dsimp [E7, ri, cellp, ints, hki, hk1, ht, ht', Stt.row, hwk]) | (refine Also.intro ?_ fun _ => ?_) | (refine Hold.intro fun _ => ?_) | (refine And.intro ?_ ?_))
    refine ⟨⟨k + 1, by omega⟩, tle_chain rfl ?_, HLe.refl _, by simp only; omega⟩
    simp [okAll, okv]
  · have hkn : ¬ (k : Int) < X.length := by omega
    simp -dsimp [hkn]
    repeat' (first | omega | (simp -dsimp [E7, ri, cellp, ints, hkn]) | (refine Also.intro ?_ fun _ => ?_) | (refine Hold.intro fun _ => ?_) | (refine And.intro ?_ ?_))
theorem ok7 : FnOK Tryd.prog 7 (.pure lawLfS) := pure_fn (E := E7) rfl (.cons ok15 (.cons ok24 (.cons ok28 (.cons ok29 (.cons ok30 (.cons ok31 .nil)))))) (ok := []) (fn := Tryd.f7) (by kernel_rfl) (by kernel_rfl) (by kernel_rfl) (by kernel_rfl) rfl (fun _ _ => by simp) b7
end Go.Sx
end
section
/- Parts: what all parts have flown in a place is what the machine has flown. No conditions. -/
set_option linter.unusedSimpArgs false
set_option linter.unusedSectionVars false
namespace Go.Sx

theorem lackK_nil {x : HI} {m : Int} {k : Nat} : ∀ {J}, x.lackK m k J = [] → ∀ j, j < J → x.emp m k j = false
  | 0, _, j, hj => by omega
  | J + 1, h, j, hj => by
    simp only [HI.lackK] at h
    split at h
    · simp at h
    · rename_i he
      by_cases e : j = J
      · subst e; simpa using he
      · exact lackK_nil h j (by omega)
theorem lackTo_nil {x : HI} {m : Int} : ∀ {K}, x.lackTo m K = [] → ∀ k, k < K → x.lackK m k (x.places k) = []
  | 0, _, k, hk => by omega
  | K + 1, h, k, hk => by
    simp only [HI.lackTo, List.append_eq_nil_iff] at h
    by_cases e : k = K
    · subst e; exact h.2
    · exact lackTo_nil h.1 k (by omega)
theorem lacks_at {x : HI} {m : Int} (h : x.lacks m = []) {k pl : Nat} (hk : k < x.r.kinds.length) (hp : pl < x.places k) : ∃ p, p < x.ps.length ∧ (x.ps.getD p default).kind = (k : Int) ∧ (x.ps.getD p default).a = m ∧ (x.ps.getD p default).b = (pl : Int) := by
  have h1 := lackK_nil (lackTo_nil h k hk) pl hp
  have h2 := idxZ_any x.ps (atIs k m pl)
  have h3 : ¬ x.at k m pl < 0 := by simpa [HI.emp] using h1
  have h4 : x.at k m pl = idxZ x.ps (atIs k m pl) := rfl
  have h5 : decide (0 ≤ idxZ x.ps (atIs k m pl)) = true := decide_eq_true (by omega)
  rw [h5] at h2
  obtain ⟨q, hq, hi⟩ := List.any_eq_true.1 h2.symm
  obtain ⟨p, hpl, rfl⟩ := List.getElem_of_mem hq
  have hg : x.ps.getD p default = x.ps[p] := by simp [List.getD, hpl]
  simp [atIs] at hi
  refine ⟨p, hpl, ?_, ?_, ?_⟩ <;> rw [hg] <;> omega
theorem ssum_one {f g : Nat → Int × Int} {d : Int × Int} {p0 : Nat} (he : f p0 = ((g p0).1 + d.1, (g p0).2 + d.2)) : ∀ {P}, (∀ p, p < P → p ≠ p0 → f p = g p) → ssum f (List.range P) = if p0 < P then ((ssum g (List.range P)).1 + d.1, (ssum g (List.range P)).2 + d.2) else ssum g (List.range P)
  | 0, _ => by simp [ssum]
  | P + 1, h => by
    have ih := ssum_one he (P := P) fun p hp => h p (by omega)
    rw [List.range_succ, ssum_app, ssum_app, ih]
    by_cases e : p0 = P
    · subst e
      rw [if_neg (by omega), if_pos (by omega)]
      simp only [ssum, he, Prod.mk.injEq]
      omega
    · have e2 := h P (by omega) (fun hh => e hh.symm)
      by_cases hlt : p0 < P
      · rw [if_pos hlt, if_pos (by omega)]
        simp only [ssum, e2, Prod.mk.injEq]
        omega
      · rw [if_neg hlt, if_neg (by omega)]
        simp only [ssum, e2]
section pl
variable (l : List Wk) (m pl : Int)
def plV (p n i : Nat) : Int × Int := if (wkAt l i).b = m ∧ (wkAt l i).c = pl then stV l p n i else (0, 0)
def plS (p n : Nat) : Int × Int := ssum (plV l m pl p n) (fs l p n)
def totK (r : Reg) (k : Nat) (n : Nat) : Int × Int := ssum (fun p => if (r.parts.getD p default).kind = (k : Int) then plS l m pl p n else (0, 0)) (List.range r.parts.length)
end pl
section pl
variable {l : List Wk} {m pl : Int} {p n : Nat}
theorem plV_same {i : Nat} (hi : i < n) (h : (wkAt l i).b = m → (wkAt l i).c = pl → toN l p i n = n → (wkAt l n).takes p = false → fl1 l m n = (0, 0)) : plV l m pl p (n + 1) i = plV l m pl p n i := by
  unfold plV
  by_cases hp : (wkAt l i).b = m ∧ (wkAt l i).c = pl
  · rw [if_pos hp, if_pos hp, stV_next hi]
    split
    · rename_i ho
      rw [hp.1, h hp.1 hp.2 ho.1 ho.2]
      simp
    · rfl
  · rw [if_neg hp, if_neg hp]
theorem plS_other (hw : ¬ ((wkAt l n).kind = 1 ∧ (wkAt l n).a = m)) : plS l m pl p (n + 1) = plS l m pl p n := by
  have hf : fl1 l m n = (0, 0) := by unfold fl1; rw [if_neg hw]
  have hold : ssum (plV l m pl p (n + 1)) (fs l p n) = ssum (plV l m pl p n) (fs l p n) := ssum_congr fun i hi => plV_same (fs_lt hi).1 fun _ _ _ _ => hf
  unfold plS
  cases hfi : (wkAt l n).fits p
  · rw [fs_no hfi, hold]
  · have hnew : plV l m pl p (n + 1) n = (0, 0) := by
      unfold plV
      split
      · exact stV_new (by have := (fits_kind hfi).1; omega)
      · rfl
    rw [fs_yes hfi, ssum_app, hold]
    simp [ssum, hnew]
theorem plS_closed (hfi : (wkAt l n).fits p = false) (h : ∀ i ∈ fs l p n, (wkAt l i).b = m → (wkAt l i).c = pl → toN l p i n < n) : plS l m pl p (n + 1) = plS l m pl p n := by
  unfold plS
  rw [fs_no hfi]
  exact ssum_congr fun i hi => plV_same (fs_lt hi).1 fun h1 h2 h3 _ => by have := h i hi h1 h2; omega
theorem plS_open {pre : List Nat} {i : Nat} (hw : (wkAt l n).kind = 1) (ha : (wkAt l n).a = m) (he : fs l p n = pre ++ [i]) (ho : toN l p i n = n) (hb : (wkAt l i).b = m) (hc : (wkAt l i).c = pl) (hpre : ∀ j ∈ pre, toN l p j n < n) :
    plS l m pl p (n + 1) = ((plS l m pl p n).1 + (wkAt l n).b, (plS l m pl p n).2 + (wkAt l n).c) := by
  have hfi : (wkAt l n).fits p = false := by simp [Wk.fits, hw]
  have hta : (wkAt l n).takes p = false := by simp [Wk.takes, hw]
  have hm : ∀ j ∈ pre ++ [i], j < n := fun j hj => (fs_lt (l := l) (p := p) (by rw [he]; exact hj)).1
  have hold : ssum (plV l m pl p (n + 1)) pre = ssum (plV l m pl p n) pre := ssum_congr fun j hj => plV_same (hm j (by simp [hj])) fun _ _ h3 _ => by have := hpre j hj; omega
  have hf : fl1 l m n = ((wkAt l n).b, (wkAt l n).c) := by unfold fl1; rw [if_pos ⟨hw, ha⟩]
  have hnew : plV l m pl p (n + 1) i = ((plV l m pl p n i).1 + (wkAt l n).b, (plV l m pl p n i).2 + (wkAt l n).c) := by
    unfold plV
    rw [if_pos ⟨hb, hc⟩, if_pos ⟨hb, hc⟩, stV_next (hm i (by simp)), if_pos ⟨ho, hta⟩, hb, hf]
  unfold plS
  rw [fs_no hfi, he, ssum_app, ssum_app, hold]
  simp only [ssum, hnew, Prod.mk.injEq]
  omega
end pl
theorem tot_step {s : HG} {r : Reg} {n : Nat} {l : List Wk} (hI : s.Inv r n) (h : His r l n s) (hw : s.doOk (wkAt l n) = true) {k m pl : Nat} (hk : k < r.kinds.length) (hpl : (pl : Int) < (r.kinds.getD k default).places)
    (ih : totK l m pl r k n = sumF l m 0 n) : totK l m pl r k (n + 1) = sumF l m 0 (n + 1) := by
  rw [sumF_next _ (Nat.zero_le _), ← ih]
  by_cases hf : (wkAt l n).kind = 1 ∧ (wkAt l n).a = (m : Int)
  · obtain ⟨k1, ka⟩ := hf
    obtain ⟨_, _, _, _, _, hlk⟩ := fly_facts hI hw k1
    rw [ka] at hlk
    have hir : s.i.r = r := hI.rg
    obtain ⟨p0, g1, g2, g3, g4⟩ := lacks_at hlk (k := k) (pl := pl) (by rw [hir]; exact hk) (by unfold HI.places; rw [hir]; omega)
    have g1' : p0 < s.ps.length := g1
    have hp0 : p0 < r.parts.length := by rw [← hI.psl]; exact g1'
    have e0 : s.ps[p0]? = some (s.ps.getD p0 default) := by simp [List.getD, g1']
    have hk0 : (r.parts.getD p0 default).kind = (k : Int) := by rw [← (hI.pk _ _ e0).1]; exact g2
    obtain ⟨pre, i0, o1, o2, o3, o4, o5⟩ := h.op p0 hp0 (by rw [show (s.ps.getD p0 default).a = (m : Int) from g3]; omega)
    have hb0 : (wkAt l i0).b = (m : Int) := by rw [← o3]; exact g3
    have hc0 : (wkAt l i0).c = (pl : Int) := by rw [← o4]; exact g4
    have hfl : fl1 l m n = ((wkAt l n).b, (wkAt l n).c) := by unfold fl1; rw [if_pos ⟨k1, ka⟩]
    have hi0 : i0 ∈ fs l p0 n := by rw [o1]; simp
    rw [hfl]
    unfold totK
    have key := ssum_one (p0 := p0) (f := fun p => if (r.parts.getD p default).kind = (k : Int) then plS l m pl p (n + 1) else (0, 0)) (g := fun p => if (r.parts.getD p default).kind = (k : Int) then plS l m pl p n else (0, 0)) (d := ((wkAt l n).b, (wkAt l n).c))
      (by simp only [if_pos hk0]; exact plS_open k1 ka o1 o2 hb0 hc0 o5) (P := r.parts.length) (by
        intro p hp hne
        by_cases hkp : (r.parts.getD p default).kind = (k : Int)
        · simp only [if_pos hkp]
          refine plS_closed (by simp [Wk.fits, k1]) fun i hi hb hc => ?_
          have hin := (fs_lt hi).1
          have hin0 := (fs_lt hi0).1
          rcases h.meet p p0 hp hp0 hne (by rw [hkp, hk0]) i hi i0 hi0 (by rw [hb, hb0]) (by rw [hc, hc0]) with x | x
          · omega
          · omega
        · simp only [if_neg hkp])
    rw [key, if_pos hp0]
  · have hfl : fl1 l m n = (0, 0) := by unfold fl1; rw [if_neg hf]
    rw [hfl]
    unfold totK
    have : ssum (fun p => if (r.parts.getD p default).kind = (k : Int) then plS l m pl p (n + 1) else (0, 0)) (List.range r.parts.length) = ssum (fun p => if (r.parts.getD p default).kind = (k : Int) then plS l m pl p n else (0, 0)) (List.range r.parts.length) :=
      ssum_congr fun p _ => by rw [plS_other hf]
    rw [this]; simp
theorem ssum_zero {f : Nat → Int × Int} : ∀ {L : List Nat}, (∀ i ∈ L, f i = (0, 0)) → ssum f L = (0, 0)
  | [], _ => rfl
  | i :: r, h => by
    simp only [ssum]
    rw [h i (by simp), ssum_zero fun j hj => h j (by simp [hj])]
    rfl
theorem stT_tot {r : Reg} {l : List Wk} (hv : r.valid = true) {k m pl : Nat} (hk : k < r.kinds.length) (hpl : (pl : Int) < (r.kinds.getD k default).places) : ∀ n : Nat, n ≤ 1000 → (∀ j, j < n → okAt r l j = true) → totK l m pl r k n = sumF l m 0 n
  | 0, _, _ => by
    unfold totK
    rw [ssum_zero]
    · rfl
    · intro p _
      split <;> rfl
  | n + 1, hn, h => tot_step (stT_inv hv n (by omega) fun j hj => h j (by omega)) (stT_his hv n (by omega) fun j hj => h j (by omega)) (h n (by omega)) hk hpl (stT_tot hv hk hpl n (by omega) fun j hj => h j (by omega))
theorem opE_tot {r : Reg} {l : List Wk} (h : opE r l = 0) {k m pl : Nat} (hk : k < r.kinds.length) (hpl : (pl : Int) < (r.kinds.getD k default).places) : totK l m pl r k l.length = sumF l m 0 l.length := by
  obtain ⟨h1, h2, h3, _⟩ := opE_inv h
  exact stT_tot h1 hk hpl _ (by omega) h3

/-! sums over lists of stretches -/
/-- The hours and the cycles of the first stretches. -/
def accH (X : List Stt) : Nat → Int × Int
  | 0 => (0, 0)
  | j + 1 => ((accH X j).1 + (X.getD j default).hours, (accH X j).2 + (X.getD j default).cycles)
/-- The hours at a place, of the first stretches. -/
def sumH (m pl : Int) (X : List Stt) : Nat → Int
  | 0 => 0
  | j + 1 => sumH m pl X j + if (X.getD j default).machine = m ∧ (X.getD j default).place = pl then (X.getD j default).hours else 0
theorem accH_map (f : Nat → Stt) : ∀ (L : List Nat) (pre : List Nat), accH ((pre ++ L).map f) (pre ++ L).length = ((accH ((pre ++ L).map f) pre.length).1 + (ssum (fun i => ((f i).hours, (f i).cycles)) L).1, (accH ((pre ++ L).map f) pre.length).2 + (ssum (fun i => ((f i).hours, (f i).cycles)) L).2)
  | [], pre => by simp [ssum]
  | i :: L, pre => by
    have ih := accH_map f L (pre ++ [i])
    have e : pre ++ [i] ++ L = pre ++ i :: L := by simp
    rw [e] at ih
    rw [ih]
    have e2 : (pre ++ [i]).length = pre.length + 1 := by simp
    have e3 : ((pre ++ i :: L).map f).getD pre.length default = f i := by simp [List.getD]
    rw [e2]
    simp only [accH, e3, ssum, Prod.mk.injEq]
    omega
theorem accH_all (f : Nat → Stt) (L : List Nat) : accH (L.map f) L.length = ssum (fun i => ((f i).hours, (f i).cycles)) L := by
  have := accH_map f L []
  simp only [List.nil_append, List.length_nil, accH] at this
  rw [this]; simp
theorem sumH_map (m pl : Int) (f : Nat → Stt) : ∀ (L : List Nat) (pre : List Nat), sumH m pl ((pre ++ L).map f) (pre ++ L).length = sumH m pl ((pre ++ L).map f) pre.length + (ssum (fun i => if (f i).machine = m ∧ (f i).place = pl then ((f i).hours, (f i).cycles) else (0, 0)) L).1
  | [], pre => by simp [ssum]
  | i :: L, pre => by
    have ih := sumH_map m pl f L (pre ++ [i])
    have e : pre ++ [i] ++ L = pre ++ i :: L := by simp
    rw [e] at ih
    rw [ih]
    have e2 : (pre ++ [i]).length = pre.length + 1 := by simp
    have e3 : ((pre ++ i :: L).map f).getD pre.length default = f i := by simp [List.getD]
    rw [e2]
    simp only [sumH, e3, ssum]
    split <;> simp only [] <;> omega
theorem sumH_all (m pl : Int) (f : Nat → Stt) (L : List Nat) : sumH m pl (L.map f) L.length = (ssum (fun i => if (f i).machine = m ∧ (f i).place = pl then ((f i).hours, (f i).cycles) else (0, 0)) L).1 := by
  have := sumH_map m pl f L []
  simp only [List.nil_append, List.length_nil, sumH] at this
  rw [this]; simp
/-- What holds of a stretch of a history. -/
structure SttP (X : List Stt) (n j : Nat) (x : Stt) : Prop where
  f0 : 0 ≤ x.fro
  ft : x.fro < x.to
  tn : x.to ≤ n
  nx : ∀ y, X[j - 1]? = some y → 0 < j → y.to < x.fro
  h0 : 0 ≤ x.hours
  h1 : x.hours ≤ 20000
  c0 : 0 ≤ x.cycles
  c1 : x.cycles ≤ 20000
theorem refH_get {l : List Wk} {p n j : Nat} {x : Stt} (h : (refH l p n)[j]? = some x) : ∃ i, (fs l p n)[j]? = some i ∧ x = stF l p n i := by
  unfold refH at h
  rw [List.getElem?_map] at h
  cases hf : (fs l p n)[j]? with
  | none => rw [hf] at h; cases h
  | some i => rw [hf] at h; exact ⟨i, rfl, (Option.some.inj h).symm⟩
theorem refH_sttP {r : Reg} {l : List Wk} (h : opE r l = 0) {p : Nat} (hp : p < r.parts.length) {j : Nat} {x : Stt} (hx : (refH l p l.length)[j]? = some x) : SttP (refH l p l.length) l.length j x := by
  have hH := opE_his h
  obtain ⟨i, hi, rfl⟩ := refH_get hx
  have him := List.mem_of_getElem? hi
  have hin := (fs_lt him).1
  have hb := opE_flb h (toN_le (l := l) (p := p) i l.length) (wkAt l i).b i
  refine ⟨by show (0 : Int) ≤ (i : Nat); omega, by show (i : Int) < (toN l p i l.length : Nat); have := toN_gt (l := l) (p := p) hin; omega, by show (toN l p i l.length : Int) ≤ _; have := toN_le (l := l) (p := p) i l.length; omega, fun y hy hj => ?_, hb.1, hb.2.1, hb.2.2.1, hb.2.2.2⟩
  obtain ⟨i', hi', rfl⟩ := refH_get hy
  have hlt : i' < i := by
    obtain ⟨h1, e1⟩ := List.getElem?_eq_some_iff.1 hi'
    obtain ⟨h2, e2⟩ := List.getElem?_eq_some_iff.1 hi
    have := List.pairwise_iff_getElem.1 (fs_asc (l := l) (p := p) l.length) (j - 1) j h1 h2 (by omega)
    rw [e1, e2] at this
    exact this
  have := hH.ord p hp i him i' (List.mem_of_getElem? hi') hlt
  show (toN l p i' l.length : Int) < (i : Nat)
  omega
/-- Two histories that are in one place at a time. -/
def meets (x y : Stt) : Bool := (x.machine == y.machine && x.place == y.place) && (decide (x.fro < y.to) && decide (y.fro < x.to))
def meetF (a b : List Stt) : Bool := a.any fun x => b.any (meets x)
theorem refH_meet {r : Reg} {l : List Wk} (h : opE r l = 0) {p q : Nat} (hp : p < r.parts.length) (hq : q < r.parts.length) (hne : p ≠ q) (hk : (r.parts.getD p default).kind = (r.parts.getD q default).kind) : meetF (refH l p l.length) (refH l q l.length) = false := by
  have hH := opE_his h
  unfold meetF
  rw [List.any_eq_false]
  intro x hx
  rw [Bool.not_eq_true, List.any_eq_false]
  intro y hy
  obtain ⟨i, hi, rfl⟩ := List.mem_map.1 hx
  obtain ⟨j, hj, rfl⟩ := List.mem_map.1 hy
  intro hm
  simp only [meets, Bool.and_eq_true, beq_iff_eq, decide_eq_true_eq] at hm
  obtain ⟨⟨m1, m2⟩, m3, m4⟩ := hm
  have m3' : (i : Int) < (toN l q j l.length : Nat) := m3
  have m4' : (j : Int) < (toN l p i l.length : Nat) := m4
  rcases hH.meet p q hp hq hne hk i hi j hj m1 m2 with x | x
  · omega
  · omega
theorem acc_used {r : Reg} {l : List Wk} (h : opE r l = 0) {p : Nat} (hp : p < r.parts.length) : ((opH r l).ps.getD p default).hours = (r.parts.getD p default).hours + (accH (refH l p l.length) (refH l p l.length).length).1 ∧ ((opH r l).ps.getD p default).cycles = (r.parts.getD p default).cycles + (accH (refH l p l.length) (refH l p l.length).length).2 := by
  have hH := opE_his h
  have e : accH (refH l p l.length) (refH l p l.length).length = ssum (stV l p l.length) (fs l p l.length) := by
    have := accH_all (stF l p l.length) (fs l p l.length)
    unfold refH
    rw [List.length_map, this]
    rfl
  rw [e]
  exact hH.us p hp
/-- The hours of the first parts of a kind at a place. -/
def sumP (r : Reg) (l : List Wk) (k m pl : Nat) : Nat → Int
  | 0 => 0
  | p + 1 => sumP r l k m pl p + if (r.parts.getD p default).kind = (k : Int) then sumH m pl (refH l p l.length) (refH l p l.length).length else 0
theorem sumP_eq (r : Reg) (l : List Wk) (k m pl : Nat) : ∀ P, sumP r l k m pl P = (ssum (fun p => if (r.parts.getD p default).kind = (k : Int) then plS l m pl p l.length else (0, 0)) (List.range P)).1
  | 0 => rfl
  | P + 1 => by
    rw [sumP, sumP_eq r l k m pl P, List.range_succ, ssum_app]
    simp only [ssum]
    have e : sumH m pl (refH l P l.length) (refH l P l.length).length = (plS l m pl P l.length).1 := by
      have := sumH_all m pl (stF l P l.length) (fs l P l.length)
      unfold refH
      rw [List.length_map, this]
      rfl
    rw [e]
    split <;> simp
theorem opE_sumP {r : Reg} {l : List Wk} (h : opE r l = 0) {k m pl : Nat} (hk : k < r.kinds.length) (hpl : (pl : Int) < (r.kinds.getD k default).places) : sumP r l k m pl r.parts.length = (sumF l m 0 l.length).1 := by
  rw [sumP_eq, ← opE_tot h hk hpl]; rfl
theorem sumH_bd (m pl : Int) (X : List Stt) (hX : ∀ (j : Nat) (x : Stt), X[j]? = some x → 0 ≤ x.hours ∧ x.hours ≤ 20000) : ∀ j, j ≤ X.length → 0 ≤ sumH m pl X j ∧ sumH m pl X j ≤ 20000 * j
  | 0, _ => by simp [sumH]
  | j + 1, h => by
    have ih := sumH_bd m pl X hX j (by omega)
    have hj : j < X.length := by omega
    have e : X[j]? = some (X.getD j default) := by simp [List.getD, hj]
    have := hX j _ e
    simp only [sumH]
    split <;> omega
theorem sumP_bd {r : Reg} {l : List Wk} (h : opE r l = 0) (hl : l.length ≤ 200) (k m pl : Nat) : ∀ P, P ≤ r.parts.length → 0 ≤ sumP r l k m pl P ∧ sumP r l k m pl P ≤ 4000000 * P
  | 0, _ => by simp [sumP]
  | P + 1, hP => by
    have ih := sumP_bd h hl k m pl P (by omega)
    have hb := sumH_bd m pl (refH l P l.length) (fun j x hx => by have := refH_sttP h (by omega) hx; exact ⟨this.h0, this.h1⟩) (refH l P l.length).length (Nat.le_refl _)
    have := refH_len l P l.length
    simp only [sumP]
    split <;> omega
end Go.Sx
end
section
/- Parts: the law about lives. No conditions. -/
set_option linter.unusedSimpArgs false
set_option linter.unusedSectionVars false
set_option maxRecDepth 100000
set_option maxHeartbeats 4000000
namespace Go.Sx
open Go.Proofs
attribute [local irreducible] HLe
attribute [local simp] hps_app

noncomputable abbrev lawLvS : PSpec := mkP rlE RL.Fine fun _ => .bool true
noncomputable abbrev E5 : Env := { P := Tryd.prog, fn := tbl [(15, .pure worksS), (19, .pure rightS), (22, .pure usedS), (23, .pure whereS)], own := [], key := 500, nt := 135 }
theorem b5 : PureBody E5 [] Tryd.f5 lawLvS := by
  refine pb ?_
  rintro ⟨r, l⟩ hfn
  cases hr : rightB r l
  · simp -dsimp [Tryd.f5, E5, Reg.row]
    repeat' (first | omega | (simp -dsimp [E5, ri, cellp, ints, rlE_dec', hfn, hr]) | (refine Also.intro ?_ fun _ => ?_) | (refine Hold.intro fun _ => ?_) | (refine And.intro ?_ ?_))
  have hE : opE r l = 0 := by simp [rightB] at hr; exact hr.2
  obtain ⟨hWf, hRel⟩ := opE_rel hE
  obtain ⟨v1, v2, v3, v4, v5, v6, v7, v8⟩ := valid_facts hWf.val
  have hLiv := opE_liv hE
  have hU := eaR_used hE
  have hW := eaR_whr hE
  have hUl := hWf.used
  have hWl := hWf.whr
  generalize rT r l l.length = T at *
  simp -dsimp [Tryd.f5, E5, Reg.row]
  repeat' (first | omega | (simp -dsimp [E5, ri, cellp, ints, rlE_dec', Reg.row, hfn, hr, hE, hU, hW, hUl, hWl, prs]) | (refine Also.intro ?_ fun _ => ?_) | (refine Hold.intro fun _ => ?_) | (refine And.intro ?_ ?_))
  refine awp_loop [51, 52, 53, 54, 55, 58, 59, 60, 61, 62, 10, 63, 64, 65, 66, 67, 68, 11, 69, 70, 71, 72, 73, 74, 75, 76, 77, 78, 79, 80, 81, 82, 83, 84, 85, 86, 4, 87, 88, 89, 90, 91, 92, 93, 94, 95, 96, 97, 98, 99, 100, 101, 102, 103, 104, 105, 106, 107, 108, 109, 110, 111, 112, 113, 114, 115, 116, 117, 118, 119, 120, 121, 122, 123, 124, 125, 126, 127, 128, 129, 130, 131, 132, 133, 56, 57, 9] (fun k : Fin (r.parts.length + 1) => [(9, (true, .int .i64 (k.1 : Nat)))])
    (fun k => hps [(502, { base := 0, blks := [{ z := 4, els := [[.sl 3 (r.kinds.map Kd.row), .sl 4 (r.parts.map Pt.row), .int .i64 r.machines, .sl 2 (r.orders.map Od.row)]], ty := 38 }] }), (510, { base := k.1, blks := [] }), (511, { base := k.1, blks := [] })] noH) (fun k => r.parts.length - k.1) ⟨0, by omega⟩ ?_ ?_ ?_
  · simp [okAll, okv]
  · exact (by (try simp -dsimp only [hpush_noH, hpush_hps, hps_over]); refine hle_hps ?_; simp -dsimp [allK, ]; repeat' (first | (refine And.intro ?_ ?_) | (refine sLe.same ?_ ?_ <;> (simp; done)) | (refine sLe.clear ?_ ?_ <;> (first | (simp; done) | (simp; omega))) | (refine sLe.drop 1 ?_ ?_ ?_ <;> (simp; done))))
  rintro ⟨k, hk⟩
  simp only
  by_cases hk1 : k < r.parts.length
  · have hki : (k : Int) < r.parts.length := by omega
    have hwk : IntKind.wrap .i64 ((k : Int) + 1) = (k + 1 : Nat) := wrap_id (by omega) (by omega)
    obtain ⟨x, hx, hx'⟩ := get_ex hk1
    have hku : k < T.used.length := by omega
    have hkw : k < T.whr.length := by omega
    obtain ⟨u, hu, hu'⟩ := get_ex hku
    obtain ⟨w, hw, hw'⟩ := get_ex hkw
    have hgx : r.parts.getD k default = x := by simp [List.getD, hx]
    have hL := hLiv k _ (hRel.getp hk1)
    rw [hgx] at hL
    have q1 : (T.pt r k).hours = u.1 := by simp [RS.pt, List.getD, hu]
    have q2 : (T.pt r k).cycles = u.2 := by simp [RS.pt, List.getD, hu]
    have q3 : (T.pt r k).a = w.1 := by simp [RS.pt, List.getD, hw]
    obtain ⟨l1, l2, l3, l4, l5⟩ := hL
    have hxb := v7 x (hx' ▸ List.getElem_mem hk1)
    obtain ⟨ki, hki2⟩ : ∃ ki : Nat, x.kind = ki := ⟨x.kind.toNat, by omega⟩
    have hk2 : ki < r.kinds.length := by omega
    obtain ⟨kd, hkd, hkd'⟩ := get_ex hk2
    have hgk : r.kinds.getD x.kind.toNat default = kd := by rw [hki2]; simp [List.getD, hkd]
    rw [q1] at l1 l3 l5
    rw [q2] at l2 l4 l5
    rw [q3] at l5
    rw [hgk] at l3 l4
    simp only [imax] at l3 l4
    have m1 : ¬ u.1 < x.hours := by omega
    have m2 : ¬ u.2 < x.cycles := by omega
    have m3 : ¬ (if kd.hours < x.hours then x.hours else kd.hours) < u.1 := by omega
    have m4 : ¬ (if kd.cycles < x.cycles then x.cycles else kd.cycles) < u.2 := by omega
    cases hkn : x.known
    · obtain ⟨u1, u2, u3⟩ := l5 hkn
      have u3' : ¬ 0 ≤ w.1 := by omega
      simp -dsimp [hki]
      repeat' (first | omega | (simp -dsimp [E5, ri, cellp, ints, hki, hk1, hx, hx', Pt.row, hku, hkw, hu, hu', hw, hw', cycV, hki2, hk2, hkd, hkd', Kd.row, m1, m2, m3, m4, hkn, u1, u2, u3', hwk]) | (refine Also.intro ?_ fun _ => ?_) | (refine Hold.intro fun _ => ?_) | (refine And.intro ?_ ?_))
      refine ⟨⟨k + 1, by omega⟩, tle_chain rfl ?_, (by (try simp -dsimp only [hpush_noH, hpush_hps, hps_over]); refine hle_hps ?_; simp -dsimp [allK, ]; repeat' (first | (refine And.intro ?_ ?_) | (refine sLe.same ?_ ?_ <;> (simp; done)) | (refine sLe.clear ?_ ?_ <;> (first | (simp; done) | (simp; omega))) | (refine sLe.drop 1 ?_ ?_ ?_ <;> (simp; done)))), by simp only; omega⟩
      simp [okAll, okv]
    · simp -dsimp [hki]
      repeat' (first | omega | (simp -dsimp [E5, ri, cellp, ints, hki, hk1, hx, hx', Pt.row, hku, hkw, hu, hu', hw, hw', cycV, hki2, hk2, hkd, hkd', Kd.row, m1, m2, m3, m4, hkn, hwk]) | (refine Also.intro ?_ fun _ => ?_) | (refine Hold.intro fun _ => ?_) | (refine And.intro ?_ ?_))
      refine ⟨⟨k + 1, by omega⟩, tle_chain rfl ?_, (by (try simp -dsimp only [hpush_noH, hpush_hps, hps_over]); refine hle_hps ?_; simp -dsimp [allK, ]; repeat' (first | (refine And.intro ?_ ?_) | (refine sLe.same ?_ ?_ <;> (simp; done)) | (refine sLe.clear ?_ ?_ <;> (first | (simp; done) | (simp; omega))) | (refine sLe.drop 1 ?_ ?_ ?_ <;> (simp; done)))), by simp only; omega⟩
      simp [okAll, okv]
  · have hkn : ¬ (k : Int) < r.parts.length := by omega
    simp -dsimp [hkn]
    repeat' (first | omega | (simp -dsimp [E5, ri, cellp, ints, hkn]) | (refine Also.intro ?_ fun _ => ?_) | (refine Hold.intro fun _ => ?_) | (refine And.intro ?_ ?_))
theorem ok5 : FnOK Tryd.prog 5 (.pure lawLvS) := pure_fn (E := E5) rfl (.cons ok15 (.cons ok19 (.cons ok22 (.cons ok23 .nil)))) (ok := []) (fn := Tryd.f5) (by kernel_rfl) (by kernel_rfl) (by kernel_rfl) (by kernel_rfl) rfl (fun _ _ => by simp) b5
end Go.Sx
end
section
/- Parts: the law about histories. No conditions. -/
set_option linter.unusedSimpArgs false
set_option linter.unusedSectionVars false
set_option maxRecDepth 100000
set_option maxHeartbeats 8000000
namespace Go.Sx
open Go.Proofs
attribute [local irreducible] HLe
attribute [local simp] hps_app

structure MtD where
  a : List Stt
  b : List Stt
  deriving Inhabited
@[simp] def mtE (d : MtD) : List V := [.sl 6 (d.a.map Stt.row), .sl 6 (d.b.map Stt.row)]
theorem mtE_inj (x y : MtD) (h : mtE x = mtE y) : x = y := by
  obtain ⟨a, b⟩ := x; obtain ⟨a', b'⟩ := y
  simp only [mtE, List.cons.injEq, V.sl.injEq, true_and, and_true] at h
  rw [map_inj Stt.row_inj h.1, map_inj Stt.row_inj h.2]
theorem mtE_dec (a b : List Stt) : decC mtE [.sl 6 (a.map Stt.row), .sl 6 (b.map Stt.row)] = ⟨a, b⟩ := decC_eq mtE_inj ⟨a, b⟩
noncomputable abbrev meetS : PSpec := mkP mtE (fun d => d.a.length ≤ 1000000 ∧ d.b.length ≤ 1000000) fun d => .bool (meetF d.a d.b)
theorem meet_yes {a b : List Stt} {i j : Nat} (hi : i < a.length) (hj : j < b.length) (h : meets a[i] b[j] = true) : meetF a b = true :=
  List.any_eq_true.2 ⟨_, List.getElem_mem hi, List.any_eq_true.2 ⟨_, List.getElem_mem hj, h⟩⟩
theorem any_no' {b : List Stt} {p : Stt → Bool} (h : ∀ j (hj : j < b.length), p b[j] = false) : b.any p = false := by
  rw [List.any_eq_false]
  intro x hx
  obtain ⟨j, hj, rfl⟩ := List.getElem_of_mem hx
  simp [h j hj]
noncomputable abbrev E38 : Env := { P := Tryd.prog, fn := tbl [], own := [], key := 3800, nt := 69 }
theorem b38 : PureBody E38 [] Tryd.f38 meetS := by
  refine pb ?_
  rintro ⟨a, b⟩ ⟨h1, h2⟩
  simp only at h1 h2
  simp -dsimp [Tryd.f38, E38]
  refine awp_loop [7, 8, 9, 10, 6, 13, 14, 15, 16, 19, 20, 21, 22, 23, 24, 25, 26, 27, 28, 29, 30, 31, 32, 33, 34, 35, 36, 37, 38, 39, 40, 41, 42, 43, 44, 45, 46, 47, 48, 49, 50, 51, 52, 53, 54, 55, 56, 57, 58, 59, 60, 61, 62, 63, 64, 65, 66, 67, 68, 4, 17, 18, 11, 12, 5] (fun k : { k : Nat // k ≤ a.length ∧ ∀ i (h : i < a.length), i < k → b.any (meets a[i]) = false }  => [(5, (true, .int .i64 (k.1 : Nat)))]) (fun _ => noH) (fun k => a.length - k.1) ⟨0, by omega, fun _ _ h => by omega⟩ ?_ (HLe.refl _) ?_
  · simp [okAll, okv]
  rintro ⟨i, hi, hall⟩
  simp only
  by_cases hi1 : i < a.length
  case neg =>
    have hin : ¬ (i : Int) < a.length := by omega
    have hR : meetF a b = false := any_no' fun j hj => hall j hj (by omega)
    simp -dsimp [hin]
    repeat' (first | omega | (simp -dsimp [E38, ri, cellp, ints, hin, hR]) | (refine Also.intro ?_ fun _ => ?_) | (refine Hold.intro fun _ => ?_) | (refine And.intro ?_ ?_))
  have hii : (i : Int) < a.length := by omega
  have hwi : IntKind.wrap .i64 ((i : Int) + 1) = (i + 1 : Nat) := wrap_id (by omega) (by omega)
  obtain ⟨x, hx, hx'⟩ := get_ex hi1
  simp -dsimp [hii]
  repeat' (first | omega | (simp -dsimp [E38, ri, cellp, ints, hii]) | (refine Also.intro ?_ fun _ => ?_) | (refine Hold.intro fun _ => ?_) | (refine And.intro ?_ ?_))
  refine awp_loop [13, 14, 15, 16, 19, 20, 21, 22, 23, 24, 25, 26, 27, 28, 29, 30, 31, 32, 33, 34, 35, 36, 37, 38, 39, 40, 41, 42, 43, 44, 45, 46, 47, 48, 49, 50, 51, 52, 53, 54, 55, 56, 57, 58, 59, 60, 61, 62, 63, 64, 65, 66, 67, 68, 4, 17, 18, 6] (fun k : { k : Nat // k ≤ b.length ∧ ∀ j (h : j < b.length), j < k → meets x b[j] = false } => [(6, (true, .int .i64 (k.1 : Nat)))]) (fun _ => noH) (fun k => b.length - k.1) ⟨0, by omega, fun _ _ h => by omega⟩ ?_ (HLe.refl _) ?_
  · simp [okAll, okv]
  rintro ⟨j, hj, hallj⟩
  simp only
  by_cases hj1 : j < b.length
  case neg =>
    have hjn : ¬ (j : Int) < b.length := by omega
    have hR : b.any (meets x) = false := any_no' fun j' hj' => hallj j' hj' (by omega)
    simp -dsimp [hjn]
    repeat' (first | omega | (simp -dsimp [E38, ri, cellp, ints, hjn, hwi]) | (refine Also.intro ?_ fun _ => ?_) | (refine Hold.intro fun _ => ?_) | (refine And.intro ?_ ?_))
    refine ⟨i + 1, tle_kept (kept_upds rfl (kept_forget rfl (kept_upds rfl kept_base))) ?_, HLe.refl _, ⟨by omega, fun i' h hlt => ?_⟩, by omega⟩
    · simp [okAll, okv]
    · by_cases e : i' = i
      · subst e; rw [hx']; simpa using hR
      · simpa using hall i' h (by omega)
  have hji : (j : Int) < b.length := by omega
  have hwj : IntKind.wrap .i64 ((j : Int) + 1) = (j + 1 : Nat) := wrap_id (by omega) (by omega)
  obtain ⟨y, hy, hy'⟩ := get_ex hj1
  have hM : meets x y = ((x.machine == y.machine && x.place == y.place) && (decide (x.fro < y.to) && decide (y.fro < x.to))) := rfl
  have step : meets x y = false → ∀ j' (h : j' < b.length), j' < j + 1 → meets x b[j'] = false := fun hm j' h hlt => by
    by_cases e : j' = j
    · subst e; rw [hy']; exact hm
    · exact hallj j' h (by omega)
  by_cases m1 : x.machine = y.machine
  case neg =>
    have m1' : (x.machine = y.machine) = False := eq_false m1
    simp -dsimp [hji]
    repeat' (first | omega | (simp -dsimp [E38, ri, cellp, ints, hji, hi1, hj1, hii, hx, hx', hy, hy', Stt.row, m1', hwj]) | (refine Also.intro ?_ fun _ => ?_) | (refine Hold.intro fun _ => ?_) | (refine And.intro ?_ ?_))
    refine ⟨j + 1, tle_chain rfl ?_, HLe.refl _, ⟨by omega, step (by rw [hM]; simp [m1])⟩, by omega⟩
    simp [okAll, okv]
  by_cases m2 : x.place = y.place
  case neg =>
    have m2' : (x.place = y.place) = False := eq_false m2
    simp -dsimp [hji]
    repeat' (first | omega | (simp -dsimp [E38, ri, cellp, ints, hji, hi1, hj1, hii, hx, hx', hy, hy', Stt.row, m1, m2', hwj]) | (refine Also.intro ?_ fun _ => ?_) | (refine Hold.intro fun _ => ?_) | (refine And.intro ?_ ?_))
    refine ⟨j + 1, tle_chain rfl ?_, HLe.refl _, ⟨by omega, step (by rw [hM]; simp [m2])⟩, by omega⟩
    simp [okAll, okv]
  by_cases m3 : x.fro < y.to
  case neg =>
    simp -dsimp [hji]
    repeat' (first | omega | (simp -dsimp [E38, ri, cellp, ints, hji, hi1, hj1, hii, hx, hx', hy, hy', Stt.row, m1, m2, m3, hwj]) | (refine Also.intro ?_ fun _ => ?_) | (refine Hold.intro fun _ => ?_) | (refine And.intro ?_ ?_))
    refine ⟨j + 1, tle_chain rfl ?_, HLe.refl _, ⟨by omega, step (by rw [hM]; simp [m3])⟩, by omega⟩
    simp [okAll, okv]
  by_cases m4 : y.fro < x.to
  case neg =>
    simp -dsimp [hji]
    repeat' (first | omega | (simp -dsimp [E38, ri, cellp, ints, hji, hi1, hj1, hii, hx, hx', hy, hy', Stt.row, m1, m2, m3, m4, hwj]) | (refine Also.intro ?_ fun _ => ?_) | (refine Hold.intro fun _ => ?_) | (refine And.intro ?_ ?_))
    refine ⟨j + 1, tle_chain rfl ?_, HLe.refl _, ⟨by omega, step (by rw [hM]; simp [m4])⟩, by omega⟩
    simp [okAll, okv]
  have hR : meetF a b = true := meet_yes hi1 hj1 (by rw [hx', hy', hM]; simp [m1, m2, m3, m4])
  simp -dsimp [hji]
  repeat' (first | omega | (simp -dsimp [E38, ri, cellp, ints, hji, hi1, hj1, hii, hx, hx', hy, hy', Stt.row, m1, m2, m3, m4, hR]) | (refine Also.intro ?_ fun _ => ?_) | (refine Hold.intro fun _ => ?_) | (refine And.intro ?_ ?_))
theorem ok38 : FnOK Tryd.prog 38 (.pure meetS) := pure_fn (E := E38) rfl LOK.nil (ok := []) (fn := Tryd.f38) (by kernel_rfl) (by kernel_rfl) (by kernel_rfl) (by kernel_rfl) rfl (fun _ _ => by simp) b38
end Go.Sx
end
