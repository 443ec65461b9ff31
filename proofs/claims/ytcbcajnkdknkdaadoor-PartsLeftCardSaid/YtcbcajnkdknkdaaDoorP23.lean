/- A part of a proof; no conditions. -/
import Derived.Test.YtcbcajnkdknkdaaDoorP22
import Derived.Test.YtcbcajnkdknkdaaDoorP21
import Derived.SizedLaws
import Derived.Test.YtcbcajnkdknkdaaDoorP09
import Derived.ProofKit
set_option linter.unusedSimpArgs false
set_option linter.unusedVariables false
set_option linter.unusedSectionVars false
section
/- Parts: History, the program's and the reference's. No conditions. -/
set_option linter.unusedSimpArgs false
set_option linter.unusedSectionVars false
set_option maxRecDepth 100000
set_option maxHeartbeats 4000000
namespace Go.Sx
open Go.Proofs
attribute [local irreducible] HLe
attribute [local simp] hps_app

def hstF (r : Reg) (l : List Wk) (n : Int) : List Stt := if opE r l = 0 then (if RS.partA r n = true then refH l n.toNat l.length else []) else []
def hstE (r : Reg) (l : List Wk) (n : Int) : Int := if opE r l = 0 then (if RS.partA r n = true then 0 else 1) else opE r l
noncomputable abbrev hstS : PSpec := mkP rnE RLN.Fine fun d => .tup [.sl 6 ((hstF d.r d.l d.n).map Stt.row), .int .i64 (hstE d.r d.l d.n)]
theorem lend_hb {s : HG} {i n : Nat} {l : List Stt} (hl : s.hb[i]? = some l) (hn : n = l.length) (h : Hp) : lend1 (Ob hgL s h) (.bsl 10215 i n) = (True, .sl 6 (l.map Stt.row)) := by
  subst hn
  simp [lend1, lendN, hl, hbB]
noncomputable abbrev E30 : Env := { P := Tryd.prog, fn := tbl [(50, .heap openHS), (61, .pure partS), (65, .heap endS)], own := [], key := 3000, nt := 53 }
theorem b30 : PureBody E30 [] Tryd.f30 hstS := by
  refine pb ?_
  rintro ⟨r, l, n⟩ hfn
  have hfn' : RL.Fine ⟨r, l⟩ := hfn
  have hFr : ∀ S : Site, FreshO (hps [(3003, S)] noH) := by
    intro S k hk
    simp only [hkeys, opOwn, List.cons_append, List.nil_append, List.mem_cons, List.not_mem_nil, or_false] at hk
    rcases hk with rfl | rfl | rfl | rfl | rfl | rfl | rfl | rfl | rfl | rfl | rfl | rfl | rfl | rfl | rfl | rfl <;> simp
  by_cases hE : opE r l = 0
  case neg =>
    have hR : hstF r l n = [] := by simp [hstF, hE]
    have hR2 : hstE r l n = opE r l := by simp [hstE, hE]
    have hV : opV r l = .tup [.nilp, .int .i64 (opA r l), .int .i64 (opE r l)] := by simp [opV, hE]
    have hO : ∀ h, opO r l h = opD h := fun h => by simp [opO, hE]
    simp -dsimp [Tryd.f30, E30, Reg.row]
    repeat' (first | omega | (simp -dsimp [E30, ri, cellp, ints, openH_go, hfn', hFr, hV, hO, hE, hR, hR2]) | (refine Also.intro ?_ fun _ => ?_) | (refine Hold.intro fun _ => ?_) | (refine And.intro ?_ ?_))
  obtain ⟨hWf, hRel⟩ := opE_rel hE
  obtain ⟨v1, v2, v3, v4, v5, v6, v7, v8⟩ := valid_facts hWf.val
  have hV : opV r l = .tup [.bptr 8619 0 1 0 0, .int .i64 (opA r l), .int .i64 0] := by simp [opV, hE]
  have hO : ∀ h, opO r l h = Ob hgL (opH r l) (opC h) := fun h => by simp [opO, hE]
  have hOk := opE_ok hE
  have hHk := hOk.hok
  have hpq := hRel.partq n
  cases hp : RS.partA r n
  · rw [hp] at hpq
    have hR : hstF r l n = [] := by simp [hstF, hE, hp]
    have hR2 : hstE r l n = 1 := by simp [hstE, hE, hp]
    generalize hs : opH r l = s at *
    simp -dsimp [Tryd.f30, E30, Reg.row, -lendN, -lend1]
    repeat' (first | omega | (simp -dsimp [E30, ri, cellp, ints, -lendN, -lend1, openH_go, hfn', hFr, hV, hO, opC, hHk, HI.v, hiE_dec', hpq, hR, hR2]) | (refine Also.intro ?_ fun _ => ?_) | (refine Hold.intro fun _ => ?_) | (refine And.intro ?_ ?_))
  rw [hp] at hpq
  obtain ⟨pi, rfl, hpi⟩ := withinB_nat (m := r.parts.length) (by omega) hp
  have hview := opE_view hE hpi
  have hR : hstF r l pi = (opH r l).view pi := by simp [hstF, hE, hp, hview]
  have hR2 : hstE r l pi = 0 := by simp [hstE, hE, hp]
  have hlen := refH_len l pi l.length
  rw [← hview] at hlen
  have hrl := hRel.psl
  rw [hR, hR2]
  clear hview hR hR2 hWf hRel
  generalize hs : opH r l = s at *
  have hpl : pi < s.ps.length := by omega
  obtain ⟨p, hpk, hpk'⟩ := get_ex hpl
  have hgp : s.ps.getD pi default = p := by simp [List.getD, hpk]
  have hhl : pi < s.hi.length := by rw [hOk.hil]; omega
  obtain ⟨o, ho, ho'⟩ := get_ex hhl
  have hpts := ptsV_ne (n := s.ps.length) (by omega)
  have hptB := ptsB_ne (n := s.ps.length) (by omega)
  have hmx := mapIdx_get hpk
  have hni : (pi : Int) < s.ps.length := by omega
  by_cases hpa : 0 ≤ p.a
  · obtain ⟨_, i, l0, hh1, hh2⟩ := hOk.at_ pi p hpk hpa
    have hpa' : ¬ p.a < 0 := by omega
    have hoi : o = some (i, l0.length) := by rw [ho] at hh1; exact Option.some.inj hh1
    subst hoi
    have hV2 : s.view pi = endL s.fl s.wk l0 := by rw [HG.view, hgp, if_pos hpa, rows_some ho]; simp [List.getD, hh2.at_]
    have hE2 : ∃ l', EndOk s i l' ∧ l0.length = l'.length := ⟨l0, hh2, rfl⟩
    have hib : i < s.hb.length := (List.getElem?_eq_some_iff.1 hh2.at_).1
    have hhb : (s.endd i s.wk).hb[i]? = some (endL s.fl s.wk l0) := by
      have : s.hb.getD i [] = l0 := by simp [List.getD, hh2.at_]
      simp only [HG.endd, this]
      simp [hib]
    have hel := endL_len s.fl s.wk l0
    have hld := lend_hb hhb hel.symm
    rw [hV2]
    simp -dsimp [Tryd.f30, E30, Reg.row, -lendN, -lend1]
    repeat' (first | omega | (simp -dsimp [E30, ri, cellp, ints, -lendN, -lend1, openH_go, hfn', hFr, hV, hO, opC, hHk, HI.v, hiE_dec', hpq, hni, hpl, hpk, hpk', hpts, hptB, hmx, PS.blk, PS.row, hpa, hhl, ho, ho', hiV_some, end_go, hE2, hld]) | (refine Also.intro ?_ fun _ => ?_) | (refine Hold.intro fun _ => ?_) | (refine And.intro ?_ ?_))
    done
  · have hV2 : s.view pi = s.rowsOf pi := by rw [HG.view, hgp, if_neg hpa]
    have hpa' : p.a < 0 := by omega
    rw [hV2]
    rcases o with _ | ⟨i, m⟩
    · rw [rows_none ho]
      simp -dsimp [Tryd.f30, E30, Reg.row, -lendN, -lend1]
      repeat' (first | omega | (simp -dsimp [E30, ri, cellp, ints, -lendN, -lend1, openH_go, hfn', hFr, hV, hO, opC, hHk, HI.v, hiE_dec', hpq, hni, hpl, hpk, hpk', hpts, hptB, hmx, PS.blk, PS.row, hpa, hpa', hhl, ho, ho', hiV_none]) | (refine Also.intro ?_ fun _ => ?_) | (refine Hold.intro fun _ => ?_) | (refine And.intro ?_ ?_))
      done
    · obtain ⟨l0, y1, y2⟩ := hHk.hi _ (List.mem_of_getElem? ho) i m rfl
      have y3 : s.rowsOf pi = l0 := by rw [rows_some ho]; simp [List.getD, y1]
      have hib : i < s.hb.length := (List.getElem?_eq_some_iff.1 y1).1
      have hld := lend_hb y1 y2.symm
      rw [y3]
      simp -dsimp [Tryd.f30, E30, Reg.row, -lendN, -lend1]
      repeat' (first | omega | (simp -dsimp [E30, ri, cellp, ints, -lendN, -lend1, openH_go, hfn', hFr, hV, hO, opC, hHk, HI.v, hiE_dec', hpq, hni, hpl, hpk, hpk', hpts, hptB, hmx, PS.blk, PS.row, hpa, hpa', hhl, ho, ho', hiV_some, hld]) | (refine Also.intro ?_ fun _ => ?_) | (refine Hold.intro fun _ => ?_) | (refine And.intro ?_ ?_))
      done
theorem ok30 : FnOK Tryd.prog 30 (.pure hstS) := pure_fn (E := E30) rfl (.cons H50.ok50 (.cons ok61 (.cons ok65 .nil))) (ok := []) (fn := Tryd.f30) (by kernel_rfl) (by kernel_rfl) (by kernel_rfl) (by kernel_rfl) rfl (fun _ _ => by simp) b30
end Go.Sx
end
section
/- Parts: History, the reference's. No conditions. -/
set_option linter.unusedSimpArgs false
set_option linter.unusedSectionVars false
set_option maxRecDepth 100000
set_option maxHeartbeats 4000000
namespace Go.Sx
open Go.Proofs
attribute [local irreducible] HLe
attribute [local simp] hps_app

noncomputable abbrev E31 : Env := { P := Tryd.prog, fn := tbl [(25, .pure checkFS), (63, .pure withinS)], own := [], key := 3100, nt := 137 }
theorem b31 : PureBody E31 [(11, ([2, 4, 7, 9], [[0, 1, 2, 3, 4, 5, 6, 7, 8, 9, 10, 11, 12, 13, 14, 15]]))] Tryd.f31 hstS := by
  refine pb ?_
  rintro ⟨r, l, n⟩ hfn
  have hfn' : RL.Fine ⟨r, l⟩ := hfn
  by_cases hE : opE r l = 0
  case neg =>
    have hR : hstF r l n = [] := by simp [hstF, hE]
    have hR2 : hstE r l n = opE r l := by simp [hstE, hE]
    simp -dsimp [Tryd.f31, E31, Reg.row]
    repeat' (first | omega | (simp -dsimp [E31, ri, cellp, ints, rlE_dec', hfn', hE, hR, hR2]) | (refine Also.intro ?_ fun _ => ?_) | (refine Hold.intro fun _ => ?_) | (refine And.intro ?_ ?_))
  obtain ⟨hWf, hRel⟩ := opE_rel hE
  obtain ⟨v1, v2, v3, v4, v5, v6, v7, v8⟩ := valid_facts hWf.val
  cases hp : RS.partA r n
  · have hR : hstF r l n = [] := by simp [hstF, hE, hp]
    have hR2 : hstE r l n = 1 := by simp [hstE, hE, hp]
    simp only [RS.partA, wsub] at hp
    simp -dsimp [Tryd.f31, E31, Reg.row]
    repeat' (first | omega | (simp -dsimp [E31, ri, cellp, ints, rlE_dec', hfn', hE, hp, hR, hR2]) | (refine Also.intro ?_ fun _ => ?_) | (refine Hold.intro fun _ => ?_) | (refine And.intro ?_ ?_))
  obtain ⟨p, rfl, hpi⟩ := withinB_nat (m := r.parts.length) (by omega) hp
  have hR : hstF r l p = refH l p l.length := by simp [hstF, hE, hp]
  have hR2 : hstE r l p = 0 := by simp [hstE, hE, hp]
  simp only [RS.partA, wsub] at hp
  have hl2 : l.length ≤ 200 := (opE_inv hE).2.1
  have hflb := fun (t : Nat) (ht : t ≤ l.length) => opE_flb hE ht
  rw [hR, hR2]
  clear hR hR2
  simp -dsimp [Tryd.f31, E31, Reg.row]
  repeat' (first | omega | (simp -dsimp [E31, ri, cellp, ints, rlE_dec', hfn', hE, hp]) | (refine Also.intro ?_ fun _ => ?_) | (refine Hold.intro fun _ => ?_) | (refine And.intro ?_ ?_))
  refine awp_loop_g [(10, 3235, 6, 61)] rfl (by simp) [31, 32, 33, 34, 37, 38, 39, 40, 41, 42, 43, 44, 45, 46, 47, 48, 49, 50, 51, 52, 53, 54, 55, 56, 57, 58, 59, 60, 61, 62, 63, 64, 65, 12, 66, 67, 68, 13, 69, 70, 71, 74, 75, 76, 77, 78, 79, 80, 81, 82, 83, 84, 85, 86, 87, 88, 89, 90, 72, 73, 91, 14, 92, 93, 94, 95, 98, 99, 100, 101, 102, 103, 104, 105, 106, 107, 108, 109, 110, 111, 112, 113, 114, 115, 116, 117, 118, 119, 120, 121, 122, 123, 124, 125, 126, 127, 128, 129, 130, 131, 96, 97, 132, 133, 134, 135, 10, 35, 36, 11] (fun k : Fin (l.length + 1) => [(11, (true, .int .i64 (k.1 : Nat))), (10, (true, .bsl 3235 0 (fs l p k.1).length))])
    (fun k => hps [(3235, { base := 0, blks := [{ z := 6, els := ((fs l p k.1).map (stF l p l.length)).map Stt.row, ty := 61 }] }), (3112, { base := k.1, blks := [] }), (3103, { base := 1, blks := [] })] noH) (fun k => l.length - k.1) ⟨0, by omega⟩ ?_ ?_ ?_
  · simp [okAll, okv, fs]
  · exact (by (try simp -dsimp only [hpush_noH, hpush_hps, hps_over]); refine hle_hps ?_; simp -dsimp [allK, fs]; repeat' (first | (refine And.intro ?_ ?_) | (refine sLe.same ?_ ?_ <;> (simp; done)) | (refine sLe.clear ?_ ?_ <;> (first | (simp; done) | (simp; omega))) | (refine sLe.drop 1 ?_ ?_ ?_ <;> (simp; done))))
  rintro ⟨i, hk⟩
  simp only
  by_cases hk1 : i < l.length
  case neg =>
    have hkn : ¬ (i : Int) < l.length := by omega
    have hke : i = l.length := by omega
    subst hke
    have hRf : (refH l p l.length).map Stt.row = ((fs l p l.length).map (stF l p l.length)).map Stt.row := rfl
    simp -dsimp [hkn]
    repeat' (first | omega | (simp -dsimp [E31, ri, cellp, ints, hkn, hRf]) | (refine Also.intro ?_ fun _ => ?_) | (refine Hold.intro fun _ => ?_) | (refine And.intro ?_ ?_))
  have hki : (i : Int) < l.length := by omega
  have hwk : IntKind.wrap .i64 ((i : Int) + 1) = (i + 1 : Nat) := wrap_id (by omega) (by omega)
  obtain ⟨w, hw, hw'⟩ := get_ex hk1
  have hwa : wkAt l i = w := by simp [wkAt, List.getD, hw]
  have hfl := fs_len (l := l) (p := p) i
  by_cases c2 : w.kind = 2
  case neg =>
    have hfn : (wkAt l i).fits p = false := by rw [hwa]; simp [Wk.fits, c2]
    have c2' : (w.kind = 2) = False := eq_false c2
    have hP := fs_no hfn
    simp -dsimp [hki]
    repeat' (first | omega | (simp -dsimp [E31, ri, cellp, ints, hki, hk1, hw, hw', Wk.row, c2', hwk]) | (refine Also.intro ?_ fun _ => ?_) | (refine Hold.intro fun _ => ?_) | (refine And.intro ?_ ?_))
    refine ⟨⟨i + 1, by omega⟩, tle_chain rfl ?_, (by (try simp -dsimp only [hpush_noH, hpush_hps, hps_over]); refine hle_hps ?_; simp -dsimp [allK, hP]; repeat' (first | (refine And.intro ?_ ?_) | (refine sLe.same ?_ ?_ <;> (simp; done)) | (refine sLe.clear ?_ ?_ <;> (first | (simp; done) | (simp; omega))) | (refine sLe.drop 1 ?_ ?_ ?_ <;> (simp; done)))), by simp only; omega⟩
    simp [okAll, okv, hP]
  by_cases ca : w.a = (p : Int)
  case neg =>
    have hfn : (wkAt l i).fits p = false := by rw [hwa]; simp [Wk.fits, ca]
    have ca' : (w.a = (p : Int)) = False := eq_false ca
    have hP := fs_no hfn
    simp -dsimp [hki]
    repeat' (first | omega | (simp -dsimp [E31, ri, cellp, ints, hki, hk1, hw, hw', Wk.row, c2, ca', hwk]) | (refine Also.intro ?_ fun _ => ?_) | (refine Hold.intro fun _ => ?_) | (refine And.intro ?_ ?_))
    refine ⟨⟨i + 1, by omega⟩, tle_chain rfl ?_, (by (try simp -dsimp only [hpush_noH, hpush_hps, hps_over]); refine hle_hps ?_; simp -dsimp [allK, hP]; repeat' (first | (refine And.intro ?_ ?_) | (refine sLe.same ?_ ?_ <;> (simp; done)) | (refine sLe.clear ?_ ?_ <;> (first | (simp; done) | (simp; omega))) | (refine sLe.drop 1 ?_ ?_ ?_ <;> (simp; done)))), by simp only; omega⟩
    simp [okAll, okv, hP]
  have hfy : (wkAt l i).fits p = true := by rw [hwa]; simp [Wk.fits, c2, ca]
  have hP := fs_yes hfy
  have hb8 : ((fs l p i).length + 1) * 48 ≤ 140737488355328 := by omega
  generalize hF : fs l p i = F at *
  have hn1 : IntKind.wrap .i64 ((l.length : Int) - 1) = (l.length - 1 : Nat) := by rw [wrap_id (by omega) (by omega)]; omega
  have hst : stF l p l.length i = ⟨w.b, w.c, i, toN l p i l.length, (sumF l w.b i (toN l p i l.length)).1, (sumF l w.b i (toN l p i l.length)).2⟩ := by simp only [stF, stV, hwa]
  have ht0 : toN l p (l.length - 1) l.length = l.length := toN_ge (by omega)
  simp -dsimp [hki]
  repeat' (first | omega | (simp -dsimp [E31, ri, cellp, ints, hki, hk1, hw, hw', Wk.row, c2, ca, FreeAt, hn1]) | (refine Also.intro ?_ fun _ => ?_) | (refine Hold.intro fun _ => ?_) | (refine And.intro ?_ ?_))
  refine awp_loop [69, 70, 71, 74, 75, 76, 77, 78, 79, 80, 81, 82, 83, 84, 85, 86, 87, 88, 89, 90, 72, 73, 13] (fun j : { j : Nat // i ≤ j ∧ j < l.length } => [(13, (true, .int .i64 (j.1 : Nat)))])
    (fun j => hps [(3235, { base := 0, blks := [{ z := 6, els := (F.map (stF l p l.length)).map Stt.row, ty := 61 }] }), (3112, { base := i, blks := [{ z := 6, els := [[.int .i64 w.b, .int .i64 w.c, .int .i64 (i : Nat), .int .i64 (toN l p j.1 l.length : Nat), .int .i64 0, .int .i64 0]], ty := 61 }] }), (3103, { base := 1, blks := [] })] noH) (fun j => j.1) ⟨l.length - 1, by omega⟩ ?_ ?_ ?_
  · simp [okAll, okv]
  · exact (by (try simp -dsimp only [hpush_noH, hpush_hps, hps_over]); refine hle_hps ?_; simp -dsimp [allK, ht0]; repeat' (first | (refine And.intro ?_ ?_) | (refine sLe.same ?_ ?_ <;> (simp; done)) | (refine sLe.clear ?_ ?_ <;> (first | (simp; done) | (simp; omega))) | (refine sLe.drop 1 ?_ ?_ ?_ <;> (simp; done))))
  rintro ⟨j, hj1, hj2⟩
  simp only
  by_cases hji : i < j
  · obtain ⟨j', rfl⟩ : ∃ j', j = j' + 1 := ⟨j - 1, by omega⟩
    have hc1 : (i : Int) < ((j' + 1 : Nat) : Int) := by omega
    have hjl : ((j' + 1 : Nat) : Int) < l.length := by omega
    have hwj : IntKind.wrap .i64 (((j' + 1 : Nat) : Int) - 1) = (j' : Nat) := by rw [wrap_id (by omega) (by omega)]; omega
    have hwj2 : IntKind.wrap .i64 (j' : Int) = (j' : Nat) := wrap_id (by omega) (by omega)
    obtain ⟨u, hu, hu'⟩ := get_ex hj2
    have hua : wkAt l (j' + 1) = u := by simp [wkAt, List.getD, hu]
    have hpr := toN_pred (l := l) (p := p) (j := j') (n := l.length) hj2
    rw [hua] at hpr
    by_cases u3 : u.kind = 3
    case neg =>
      have u3' : (u.kind = 3) = False := eq_false u3
      have htk : u.takes p = false := by simp [Wk.takes, u3]
      rw [htk, if_neg (by simp)] at hpr
      simp -dsimp [hc1]
      repeat' (first | omega | (simp -dsimp [E31, ri, cellp, ints, hc1, hjl, hj2, hu, hu', Wk.row, u3', hwj, hwj2]) | (refine Also.intro ?_ fun _ => ?_) | (refine Hold.intro fun _ => ?_) | (refine And.intro ?_ ?_))
      refine ⟨j', tle_chain rfl ?_, (by (try simp -dsimp only [hpush_noH, hpush_hps, hps_over]); refine hle_hps ?_; simp -dsimp [allK, hpr]; repeat' (first | (refine And.intro ?_ ?_) | (refine sLe.same ?_ ?_ <;> (simp; done)) | (refine sLe.clear ?_ ?_ <;> (first | (simp; done) | (simp; omega))) | (refine sLe.drop 1 ?_ ?_ ?_ <;> (simp; done)))), ⟨by omega, by omega⟩, by omega⟩
      simp [okAll, okv]
    by_cases ua : u.a = (p : Int)
    case neg =>
      have ua' : (u.a = (p : Int)) = False := eq_false ua
      have htk : u.takes p = false := by simp [Wk.takes, ua]
      rw [htk, if_neg (by simp)] at hpr
      simp -dsimp [hc1]
      repeat' (first | omega | (simp -dsimp [E31, ri, cellp, ints, hc1, hjl, hj2, hu, hu', Wk.row, u3, ua', hwj, hwj2]) | (refine Also.intro ?_ fun _ => ?_) | (refine Hold.intro fun _ => ?_) | (refine And.intro ?_ ?_))
      refine ⟨j', tle_chain rfl ?_, (by (try simp -dsimp only [hpush_noH, hpush_hps, hps_over]); refine hle_hps ?_; simp -dsimp [allK, hpr]; repeat' (first | (refine And.intro ?_ ?_) | (refine sLe.same ?_ ?_ <;> (simp; done)) | (refine sLe.clear ?_ ?_ <;> (first | (simp; done) | (simp; omega))) | (refine sLe.drop 1 ?_ ?_ ?_ <;> (simp; done)))), ⟨by omega, by omega⟩, by omega⟩
      simp [okAll, okv]
    have htk : u.takes p = true := by simp [Wk.takes, u3, ua]
    rw [htk, if_pos rfl] at hpr
    simp -dsimp [hc1]
    repeat' (first | omega | (simp -dsimp [E31, ri, cellp, ints, hc1, hjl, hj2, hu, hu', Wk.row, u3, ua, hwj, hwj2]) | (refine Also.intro ?_ fun _ => ?_) | (refine Hold.intro fun _ => ?_) | (refine And.intro ?_ ?_))
    refine ⟨j', tle_chain rfl ?_, (by (try simp -dsimp only [hpush_noH, hpush_hps, hps_over]); refine hle_hps ?_; simp -dsimp [allK, hpr]; repeat' (first | (refine And.intro ?_ ?_) | (refine sLe.same ?_ ?_ <;> (simp; done)) | (refine sLe.clear ?_ ?_ <;> (first | (simp; done) | (simp; omega))) | (refine sLe.drop 1 ?_ ?_ ?_ <;> (simp; done)))), ⟨by omega, by omega⟩, by omega⟩
    simp [okAll, okv]
  have hc1 : ¬ (i : Int) < (j : Nat) := by omega
  have hji2 : j = i := by omega
  subst hji2
  have hTl := toN_le (l := l) (p := p) j l.length
  have hTg := toN_gt (l := l) (p := p) (i := j) (n := l.length) hk1
  have hs0 := sumF_ge (l := l) w.b (Nat.le_refl j)
  generalize hT : toN l p j l.length = T at *
  simp -dsimp [hc1]
  repeat' (first | omega | (simp -dsimp [E31, ri, cellp, ints, hc1]) | (refine Also.intro ?_ fun _ => ?_) | (refine Hold.intro fun _ => ?_) | (refine And.intro ?_ ?_))
  refine awp_loop [92, 93, 94, 95, 98, 99, 100, 101, 102, 103, 104, 105, 106, 107, 108, 109, 110, 111, 112, 113, 114, 115, 116, 117, 118, 119, 120, 121, 122, 123, 124, 125, 126, 127, 128, 129, 130, 131, 96, 97, 14] (fun t : { t : Nat // j ≤ t ∧ t ≤ T } => [(14, (true, .int .i64 (t.1 : Nat)))])
    (fun t => hps [(3235, { base := 0, blks := [{ z := 6, els := (F.map (stF l p l.length)).map Stt.row, ty := 61 }] }), (3112, { base := j, blks := [{ z := 6, els := [[.int .i64 w.b, .int .i64 w.c, .int .i64 (j : Nat), .int .i64 (T : Nat), .int .i64 (sumF l w.b j t.1).1, .int .i64 (sumF l w.b j t.1).2]], ty := 61 }] }), (3103, { base := 1, blks := [] })] noH) (fun t => T - t.1) ⟨j, by omega⟩ ?_ ?_ ?_
  · simp [okAll, okv]
  · exact (by (try simp -dsimp only [hpush_noH, hpush_hps, hps_over]); refine hle_hps ?_; simp -dsimp [allK, hs0]; repeat' (first | (refine And.intro ?_ ?_) | (refine sLe.same ?_ ?_ <;> (simp; done)) | (refine sLe.clear ?_ ?_ <;> (first | (simp; done) | (simp; omega))) | (refine sLe.drop 1 ?_ ?_ ?_ <;> (simp; done))))
  rintro ⟨t, ht1, ht2⟩
  simp only
  by_cases htT : t < T
  · have hc2 : (t : Int) < (T : Nat) := by omega
    have htl : t < l.length := by omega
    have hti : (t : Int) < l.length := by omega
    have hwt : IntKind.wrap .i64 ((t : Int) + 1) = (t + 1 : Nat) := wrap_id (by omega) (by omega)
    obtain ⟨u, hu, hu'⟩ := get_ex htl
    have hua : wkAt l t = u := by simp [wkAt, List.getD, hu]
    have hnx := sumF_next (l := l) w.b (i := j) (j := t) ht1
    have hb1 := hflb t (by omega) w.b j
    have hb2 := hflb (t + 1) (by omega) w.b j
    by_cases u1 : u.kind = 1
    case neg =>
      have u1' : (u.kind = 1) = False := eq_false u1
      have hf0 : fl1 l w.b t = (0, 0) := by simp [fl1, hua, u1]
      rw [hf0] at hnx
      simp only [Int.add_zero] at hnx
      simp -dsimp [hc2]
      repeat' (first | omega | (simp -dsimp [E31, ri, cellp, ints, hc2, htl, hti, hu, hu', Wk.row, u1', hwt]) | (refine Also.intro ?_ fun _ => ?_) | (refine Hold.intro fun _ => ?_) | (refine And.intro ?_ ?_))
      refine ⟨t + 1, tle_chain rfl ?_, (by (try simp -dsimp only [hpush_noH, hpush_hps, hps_over]); refine hle_hps ?_; simp -dsimp [allK, hnx]; repeat' (first | (refine And.intro ?_ ?_) | (refine sLe.same ?_ ?_ <;> (simp; done)) | (refine sLe.clear ?_ ?_ <;> (first | (simp; done) | (simp; omega))) | (refine sLe.drop 1 ?_ ?_ ?_ <;> (simp; done)))), ⟨by omega, by omega⟩, by omega⟩
      simp [okAll, okv]
    by_cases ub : u.a = w.b
    case neg =>
      have ub' : (u.a = w.b) = False := eq_false ub
      have hf0 : fl1 l w.b t = (0, 0) := by simp [fl1, hua, ub]
      rw [hf0] at hnx
      simp only [Int.add_zero] at hnx
      simp -dsimp [hc2]
      repeat' (first | omega | (simp -dsimp [E31, ri, cellp, ints, hc2, htl, hti, hu, hu', Wk.row, u1, ub', hwt]) | (refine Also.intro ?_ fun _ => ?_) | (refine Hold.intro fun _ => ?_) | (refine And.intro ?_ ?_))
      refine ⟨t + 1, tle_chain rfl ?_, (by (try simp -dsimp only [hpush_noH, hpush_hps, hps_over]); refine hle_hps ?_; simp -dsimp [allK, hnx]; repeat' (first | (refine And.intro ?_ ?_) | (refine sLe.same ?_ ?_ <;> (simp; done)) | (refine sLe.clear ?_ ?_ <;> (first | (simp; done) | (simp; omega))) | (refine sLe.drop 1 ?_ ?_ ?_ <;> (simp; done)))), ⟨by omega, by omega⟩, by omega⟩
      simp [okAll, okv]
    have hf0 : fl1 l w.b t = (u.b, u.c) := by simp [fl1, hua, u1, ub]
    rw [hf0] at hnx
    rw [hnx] at hb2
    simp only at hb2
    have w1 : IntKind.wrap .i64 ((sumF l w.b j t).1 + u.b) = (sumF l w.b j t).1 + u.b := wrap_id (by omega) (by omega)
    have w2 : IntKind.wrap .i64 ((sumF l w.b j t).2 + u.c) = (sumF l w.b j t).2 + u.c := wrap_id (by omega) (by omega)
    simp -dsimp [hc2]
    repeat' (first | omega | (simp -dsimp [E31, ri, cellp, ints, hc2, htl, hti, hu, hu', Wk.row, u1, ub, hwt, w1, w2]) | (refine Also.intro ?_ fun _ => ?_) | (refine Hold.intro fun _ => ?_) | (refine And.intro ?_ ?_))
    refine ⟨t + 1, tle_chain rfl ?_, (by (try simp -dsimp only [hpush_noH, hpush_hps, hps_over]); refine hle_hps ?_; simp -dsimp [allK, hnx]; repeat' (first | (refine And.intro ?_ ?_) | (refine sLe.same ?_ ?_ <;> (simp; done)) | (refine sLe.clear ?_ ?_ <;> (first | (simp; done) | (simp; omega))) | (refine sLe.drop 1 ?_ ?_ ?_ <;> (simp; done)))), ⟨by omega, by omega⟩, by omega⟩
    simp [okAll, okv]
  have hc2 : ¬ (t : Int) < (T : Nat) := by omega
  have htT2 : t = T := by omega
  subst htT2
  simp -dsimp [hc2]
  repeat' (first | omega | (simp -dsimp [E31, ri, cellp, ints, hc2, hb8, hwk]) | (refine Also.intro ?_ fun _ => ?_) | (refine Hold.intro fun _ => ?_) | (refine And.intro ?_ ?_))
  refine ⟨⟨j + 1, by omega⟩, tle_kept (kept_upds rfl (kept_forget rfl (kept_upds rfl (kept_forget rfl (kept_upds rfl kept_base))))) ?_, (by (try simp -dsimp only [hpush_noH, hpush_hps, hps_over]); refine hle_hps ?_; simp -dsimp [allK, hP, hst, Stt.row]; repeat' (first | (refine And.intro ?_ ?_) | (refine sLe.same ?_ ?_ <;> (simp; done)) | (refine sLe.clear ?_ ?_ <;> (first | (simp; done) | (simp; omega))) | (refine sLe.drop 1 ?_ ?_ ?_ <;> (simp; done)))), by simp only; omega⟩
  simp [okAll, okv, hP]
theorem ok31 : FnOK Tryd.prog 31 (.pure hstS) := pure_fn (E := E31) rfl (.cons ok25 (.cons ok63 .nil)) (ok := [(11, ([2, 4, 7, 9], [[0, 1, 2, 3, 4, 5, 6, 7, 8, 9, 10, 11, 12, 13, 14, 15]]))]) (fn := Tryd.f31) (by kernel_rfl) (by kernel_rfl) (by kernel_rfl) (by kernel_rfl) rfl (fun _ _ => by simp) b31
end Go.Sx
end
section
/- Parts: the law about what is left, and histories. No conditions. -/
set_option linter.unusedSimpArgs false
set_option linter.unusedSectionVars false
set_option maxRecDepth 100000
set_option maxHeartbeats 4000000
namespace Go.Sx
open Go.Proofs
attribute [local irreducible] HLe
attribute [local simp] hps_app

theorem hstF_len (r : Reg) (l : List Wk) (n : Int) : (hstF r l n).length ≤ l.length := by
  unfold hstF
  split
  · split
    · exact refH_len _ _ _
    · simp
  · simp
noncomputable abbrev lawLfS : PSpec := mkP rnE RLN.Fine fun _ => .bool true
noncomputable abbrev E7 : Env := { P := Tryd.prog, fn := tbl [(15, .pure worksS), (24, .pure longS), (28, .pure leftFS), (29, .pure leftFS), (30, .pure hstS), (31, .pure hstS)], own := [], key := 700, nt := 88 }
theorem b7 : PureBody E7 [] Tryd.f7 lawLfS := by
  refine pb ?_
  rintro ⟨r, l, n⟩ hfn
  have hfn : RLN.Fine ⟨r, l, n⟩ := hfn
  have hl : l.length ≤ 9223372036854775807 := hfn.2.2.2
  have hX := hstF_len r l n
  cases h : longB l
  case true =>
    simp -dsimp [Tryd.f7, E7, Reg.row]
    repeat' (first | omega | (simp -dsimp [E7, ri, cellp, ints, wkE_dec, hl, h]) | (refine Also.intro ?_ fun _ => ?_) | (refine Hold.intro fun _ => ?_) | (refine And.intro ?_ ?_))
  simp -dsimp [Tryd.f7, E7, Reg.row]
  repeat' (first | omega | (simp -dsimp [E7, ri, cellp, ints, rnE_dec', wkE_dec, hl, hfn, h]) | (refine Also.intro ?_ fun _ => ?_) | (refine Hold.intro fun _ => ?_) | (refine And.intro ?_ ?_))
  refine awp_loop [72, 73, 74, 75, 78, 79, 80, 81, 82, 83, 84, 85, 86, 6, 76, 77, 15] (fun k : Fin ((hstF r l n).length + 1) => [(15, (true, .int .i64 (k.1 : Nat)))]) (fun _ => hps [(703, { base := 1, blks := [] })] noH) (fun k => (hstF r l n).length - k.1) ⟨0, by omega⟩ ?_ ?_ ?_
  · simp [okAll, okv]
  · exact (by (try simp -dsimp only [hpush_noH, hpush_hps, hps_over]); refine hle_hps ?_; simp -dsimp [allK, ]; repeat' (first | (refine And.intro ?_ ?_) | (refine sLe.same ?_ ?_ <;> (simp; done)) | (refine sLe.clear ?_ ?_ <;> (first | (simp; done) | (simp; omega))) | (refine sLe.drop 1 ?_ ?_ ?_ <;> (simp; done))))
  generalize hstF r l n = X at *
  rintro ⟨k, hk⟩
  simp only
  by_cases hk1 : k < X.length
  · have hki : (k : Int) < X.length := by omega
    have hwk : IntKind.wrap .i64 ((k : Int) + 1) = (k + 1 : Nat) := wrap_id (by omega) (by omega)
    obtain ⟨t, ht, ht'⟩ := get_ex hk1
    simp -dsimp [hki]
    repeat' (first | omega | (simp -dsimp [E7, ri, cellp, ints, hki, hk1, ht, ht', Stt.row, hwk]) | (refine Also.intro ?_ fun _ => ?_) | (refine Hold.intro fun _ => ?_) | (refine And.intro ?_ ?_))
    refine ⟨⟨k + 1, by omega⟩, tle_chain rfl ?_, HLe.refl _, by simp only; omega⟩
    simp [okAll, okv]
  · have hkn : ¬ (k : Int) < X.length := by omega
    simp -dsimp [hkn]
    repeat' (first | omega | (simp -dsimp [E7, ri, cellp, ints, hkn]) | (refine Also.intro ?_ fun _ => ?_) | (refine Hold.intro fun _ => ?_) | (refine And.intro ?_ ?_))
theorem ok7 : FnOK Tryd.prog 7 (.pure lawLfS) := pure_fn (E := E7) rfl (.cons ok15 (.cons ok24 (.cons ok28 (.cons ok29 (.cons ok30 (.cons ok31 .nil)))))) (ok := []) (fn := Tryd.f7) (by kernel_rfl) (by kernel_rfl) (by kernel_rfl) (by kernel_rfl) rfl (fun _ _ => by simp) b7
end Go.Sx
end
section
/- Reading what a call is handed: data that can be read, as abstract values; the frame of a law that returns true. No conditions. -/
set_option linter.unusedSimpArgs false
namespace Go.Sx
open Go.RowKit
variable [Gls]

def tiles (P : Program) : List Field → Nat → Nat → Bool
  | [], o, n => o == n
  | fl :: r, o, n => fl.offset == o && tiles P r (o + P.cellsOf fl.type) n

/-- A type of plain data. -/
def plain (P : Program) : Nat → TypeId → Bool
  | 0, _ => false
  | f + 1, t => match P.underlying t with
    | some .bool => true
    | some (.int _) => true
    | some (.slice e) => decide (0 < P.cellsOf e) && plain P f e
    | some (.struct fs) => tiles P fs.toList 0 (P.cellsOf t) && fs.toList.all fun fl => plain P f fl.type
    | some (.array n e) => decide (n * P.cellsOf e = P.cellsOf t) && plain P f e
    | _ => false

/-- The cells' shape, by their type. -/
def tyV (P : Program) : Nat → TypeId → List V → Prop
  | 0, _, _ => False
  | f + 1, t, vs => match P.underlying t with
    | some .bool => ∃ b, vs = [.bool b]
    | some (.int k) => ∃ n, vs = [.int k n] ∧ (Lit.int k n).wf = true
    | some (.slice e) => ∃ els, vs = [.sl (P.cellsOf e) els] ∧ els.length ≤ maxLen ∧ els.length * P.bytesOf e ≤ reachBytes ∧ ∀ row ∈ els, tyV P f e row
    | some (.struct fs) => vs.length = P.cellsOf t ∧ ∀ fl ∈ fs.toList, tyV P f fl.type ((vs.drop fl.offset).take (P.cellsOf fl.type))
    | some (.array n e) => vs.length = P.cellsOf t ∧ ∀ i, i < n → tyV P f e ((vs.drop (i * P.cellsOf e)).take (P.cellsOf e))
    | _ => False

/-- Cells and what is known of them. -/
def CV (w : World) (vs : List V) (cs : List Value) : Prop := vs.length = cs.length ∧ ∀ i c, vs[i]? = some c → PV w (fun _ => False) c (cs.getD i und) ∧ (cs.getD i und).oneCell' = true

omit [Gls] in
theorem CV.nil (w : World) : CV w [] [] := ⟨rfl, fun i c h => by simp at h⟩
omit [Gls] in
theorem CV.append {w : World} {a b : List V} {x y : List Value} (h : CV w a x) (k : CV w b y) : CV w (a ++ b) (x ++ y) := by
  refine ⟨by simp [h.1, k.1], fun i c hc => ?_⟩
  rw [List.getElem?_append] at hc
  split at hc
  · rename_i hi
    have := h.2 i c hc
    rw [List.getD_eq_getElem?_getD, List.getElem?_append_left (by rw [← h.1]; exact hi), ← List.getD_eq_getElem?_getD]
    exact this
  · rename_i hi
    have := k.2 _ c hc
    rw [List.getD_eq_getElem?_getD, List.getElem?_append_right (by rw [← h.1]; omega), ← h.1, ← List.getD_eq_getElem?_getD]
    exact this
omit [Gls] in
theorem CV.one {w : World} {x : V} {v : Value} (h : PV w (fun _ => False) x v) (h1 : v.oneCell' = true) : CV w [x] [v] := by
  refine ⟨rfl, fun i c hc => ?_⟩
  cases i with
  | zero => simp at hc; subst hc; exact ⟨h, h1⟩
  | succ i => simp at hc

omit [Gls] in
theorem mapM_all {α β : Type} {f : α → Option β} : ∀ {l : List α} {ys : List β}, l.mapM f = some ys → ∀ x ∈ l, ∃ y, f x = some y
  | [], _, _, x, hx => by simp at hx
  | a :: l, ys, h, x, hx => by
    rw [List.mapM_cons] at h
    cases ha : f a with
    | none => simp [ha] at h
    | some b =>
      simp only [ha, Option.bind_eq_bind, Option.bind_some] at h
      cases hl : l.mapM f with
      | none => simp [hl] at h
      | some bs =>
        rcases List.mem_cons.1 hx with rfl | hx
        · exact ⟨b, ha⟩
        · exact mapM_all hl x hx

/-- No reading of these is heavier than memory. -/
def wOK {H : Type} (P : Program) (t : TypeId) (d : DataW H) : Prop := ∀ n ∈ d.weights P t, n ≤ reachBytes
omit [Gls] in
theorem wOK_each {α H : Type} {P : Program} {f : α → Option (DataW H × List MemPlace)} {ty : α → TypeId} : ∀ {l : List α} {ys : List (DataW H × List MemPlace)}, l.mapM f = some ys → (∀ n ∈ DataW.weightsEach P (l.map ty) (ys.map (·.1)), n ≤ reachBytes) → ∀ x ∈ l, ∃ y, f x = some y ∧ wOK P (ty x) y.1
  | [], _, _, _, x, hx => by simp at hx
  | a :: l, ys, h, hw, x, hx => by
    rw [List.mapM_cons] at h
    cases ha : f a with
    | none => simp [ha] at h
    | some b =>
      simp only [ha, Option.bind_eq_bind, Option.bind_some] at h
      cases hl : l.mapM f with
      | none => simp [hl] at h
      | some bs =>
        simp only [hl, Option.bind_some, Option.pure_def, Option.some.injEq] at h
        subst h
        simp only [List.map_cons, DataW.weightsEach, List.mem_append] at hw
        rcases List.mem_cons.1 hx with rfl | hx
        · exact ⟨b, ha, fun n hn => hw n (.inl hn)⟩
        · exact wOK_each hl (fun n hn => hw n (.inr hn)) x hx
omit [Gls] in
theorem wOK_all {H : Type} {P : Program} {e : TypeId} : ∀ {ds : List (DataW H)}, (∀ n ∈ DataW.weightsAll P e ds, n ≤ reachBytes) → ∀ d ∈ ds, wOK P e d
  | [], _, d, hd => by simp at hd
  | a :: ds, hw, d, hd => by
    simp only [DataW.weightsAll, List.mem_append] at hw
    rcases List.mem_cons.1 hd with rfl | hd
    · exact fun n hn => hw n (.inl hn)
    · exact wOK_all (fun n hn => hw n (.inr hn)) d hd
omit [Gls] in
theorem mapM_mem {α β : Type} {f : α → Option β} : ∀ {l : List α} {ys : List β}, l.mapM f = some ys → ∀ x ∈ l, ∃ y ∈ ys, f x = some y
  | [], _, _, x, hx => by simp at hx
  | a :: l, ys, h, x, hx => by
    rw [List.mapM_cons] at h
    cases ha : f a with
    | none => simp [ha] at h
    | some b =>
      simp only [ha, Option.bind_eq_bind, Option.bind_some] at h
      cases hl : l.mapM f with
      | none => simp [hl] at h
      | some bs =>
        simp only [hl, Option.bind_some, Option.pure_def, Option.some.injEq] at h
        subst h
        rcases List.mem_cons.1 hx with rfl | hx
        · exact ⟨b, by simp, ha⟩
        · obtain ⟨y, hy, e⟩ := mapM_mem hl x hx; exact ⟨y, by simp [hy], e⟩

section
variable {H : Type} {enc : TypeId × Value → H} {P : Program} {w : World} {base : Nat} {spare : Nat → Bool} {held : Bool}

omit [Gls] in
theorem struct_cells {f : Nat} {cs : List Value} (ih : ∀ (fl : Field), plain P f fl.type = true → ∀ (cs : List Value), (∃ fuel x, DataW.trod enc P w base spare held fuel fl.type cs = some x ∧ wOK P fl.type x.1) → cs.length = P.cellsOf fl.type → ∃ vs, CV w vs cs ∧ tyV P f fl.type vs) :
    ∀ (fs : List Field) (o n : Nat), tiles P fs o n = true → cs.length = n → o ≤ n → (∀ fl ∈ fs, plain P f fl.type = true ∧ ∃ fuel x, DataW.trod enc P w base spare held fuel fl.type ((cs.drop fl.offset).take (P.cellsOf fl.type)) = some x ∧ wOK P fl.type x.1) →
      ∃ vs, CV w vs (cs.drop o) ∧ (∀ fl ∈ fs, o ≤ fl.offset ∧ tyV P f fl.type ((vs.drop (fl.offset - o)).take (P.cellsOf fl.type)))
  | [], o, n, ht, hl, ho, _ => by
    simp only [tiles, beq_iff_eq] at ht
    refine ⟨[], ?_, by simp⟩
    rw [List.drop_eq_nil_of_le (by omega)]
    exact .nil w
  | fl :: fs, o, n, ht, hl, ho, hall => by
    simp only [tiles, Bool.and_eq_true, beq_iff_eq] at ht
    obtain ⟨rfl, ht⟩ := ht
    obtain ⟨hp, hr⟩ := hall fl (by simp)
    have hle : fl.offset + P.cellsOf fl.type ≤ n := by
      have : ∀ (fs : List Field) (o : Nat), tiles P fs o n = true → o ≤ n := by
        intro fs
        induction fs with
        | nil => intro o h; simp only [tiles, beq_iff_eq] at h; omega
        | cons g r ih2 => intro o h; simp only [tiles, Bool.and_eq_true, beq_iff_eq] at h; have := ih2 _ h.2; omega
      exact this fs _ ht
    have hlen : ((cs.drop fl.offset).take (P.cellsOf fl.type)).length = P.cellsOf fl.type := by simp; omega
    obtain ⟨v1, c1, t1⟩ := ih fl hp _ hr hlen
    obtain ⟨v2, c2, t2⟩ := struct_cells ih fs _ n ht hl hle (fun g hg => hall g (by simp [hg]))
    have hv1 : v1.length = P.cellsOf fl.type := by rw [c1.1, hlen]
    refine ⟨v1 ++ v2, ?_, fun g hg => ?_⟩
    · have := c1.append c2
      rwa [← List.drop_drop, List.take_append_drop] at this
    · rcases List.mem_cons.1 hg with rfl | hg
      · refine ⟨Nat.le_refl _, ?_⟩
        rw [Nat.sub_self, List.drop_zero, List.take_append_of_le_length (by omega), List.take_of_length_le (by omega)]
        exact t1
      · obtain ⟨h1, h2⟩ := t2 g hg
        refine ⟨by omega, ?_⟩
        rw [List.drop_append, List.drop_eq_nil_of_le (by omega), List.nil_append, hv1, show g.offset - fl.offset - P.cellsOf fl.type = g.offset - (fl.offset + P.cellsOf fl.type) by omega]
        exact h2

omit [Gls] in
theorem array_cells {f : Nat} {e : TypeId} {cs : List Value} (ih : ∀ (cs : List Value), (∃ fuel x, DataW.trod enc P w base spare held fuel e cs = some x ∧ wOK P e x.1) → cs.length = P.cellsOf e → ∃ vs, CV w vs cs ∧ tyV P f e vs) {n : Nat}
    (hl : cs.length = n * P.cellsOf e) (hall : ∀ i, i < n → ∃ fuel x, DataW.trod enc P w base spare held fuel e ((cs.drop (i * P.cellsOf e)).take (P.cellsOf e)) = some x ∧ wOK P e x.1) :
    ∀ k, k ≤ n → ∃ vs, CV w vs (cs.take (k * P.cellsOf e)) ∧ ∀ i, i < k → tyV P f e ((vs.drop (i * P.cellsOf e)).take (P.cellsOf e))
  | 0, _ => ⟨[], by simpa using CV.nil w, fun i h => by omega⟩
  | k + 1, hk => by
    obtain ⟨v1, c1, t1⟩ := array_cells ih hl hall k (by omega)
    have hlt : (k + 1) * P.cellsOf e ≤ n * P.cellsOf e := Nat.mul_le_mul_right _ hk
    rw [Nat.add_mul, Nat.one_mul] at hlt
    obtain ⟨v2, c2, t2⟩ := ih _ (hall k (by omega)) (by simp; omega)
    have hv1 : v1.length = k * P.cellsOf e := by rw [c1.1]; simp; omega
    have hv2 : v2.length = P.cellsOf e := by rw [c2.1]; simp; omega
    refine ⟨v1 ++ v2, ?_, fun i hi => ?_⟩
    · have := c1.append c2
      rw [Nat.add_mul, Nat.one_mul, List.take_add]
      exact this
    · by_cases hik : i < k
      · have h1 : (i + 1) * P.cellsOf e ≤ k * P.cellsOf e := Nat.mul_le_mul_right _ hik
        rw [Nat.add_mul, Nat.one_mul] at h1
        rw [List.drop_append_of_le_length (by omega), List.take_append_of_le_length (by simp; omega)]
        exact t1 i hik
      · have : i = k := by omega
        subst this
        rw [List.drop_append, List.drop_eq_nil_of_le (by omega), List.nil_append, hv1, Nat.sub_self, List.drop_zero, List.take_of_length_le (by omega)]
        exact t2

omit [Gls] in
theorem read_cells : ∀ (f : Nat) (t : TypeId) (cs : List Value), plain P f t = true → (∃ fuel x, DataW.trod enc P w base spare held fuel t cs = some x ∧ wOK P t x.1) → cs.length = P.cellsOf t → ∃ vs, CV w vs cs ∧ tyV P f t vs
  | 0, t, cs, hp, _, _ => by simp [plain] at hp
  | f + 1, t, cs, hp, ⟨fuel, x, hx, hwx⟩, hlen => by
    cases fuel with
    | zero => simp [DataW.trod] at hx
    | succ fuel =>
    simp only [plain] at hp
    cases hu : P.underlying t with
    | none => simp [hu] at hp
    | some u =>
    rw [hu] at hp
    simp only [tyV, hu]
    cases u <;> simp only at hp ⊢ <;> try (cases hp; done)
    case bool =>
      unfold DataW.trod at hx
      rw [hu] at hx
      split at hx <;> simp_all
      refine ⟨_, .one (.bool _) rfl, ?_⟩
      simp
    case int k =>
      unfold DataW.trod at hx
      rw [hu] at hx
      split at hx <;> simp_all
      obtain ⟨⟨rfl, h1⟩, _⟩ := hx
      exact ⟨_, .one (.int _ _) rfl, _, rfl, h1⟩
    case slice e =>
      simp only [Bool.and_eq_true, decide_eq_true_eq] at hp
      rcases DataW.trod_slice hu hx with ⟨rfl, rfl⟩ | ⟨a, len, cap, elems, rest, n, hn, rfl, rfl, hb, hl, hm, hlen2, hel, hsp, hns⟩
      · exact ⟨_, .one (.sl0 (P.cellsOf e) none 0) rfl, [], rfl, by simp, by simp, by simp⟩
      by_cases h0 : len = 0
      · subst h0
        exact ⟨_, .one (.sl0 (P.cellsOf e) (some a) cap) rfl, [], rfl, by simp, by simp, by simp⟩
      unfold wOK DataW.weights at hwx
      rw [hu] at hwx
      simp only [List.length_map, List.mem_cons, List.mem_append] at hwx
      have hbig := hwx _ (.inl rfl)
      have hbl : elems.length * P.bytesOf e ≤ reachBytes := Nat.le_trans (Nat.mul_le_mul_right _ (Nat.le_add_right _ _)) hbig
      have hwe : ∀ d ∈ elems.map (·.1), wOK P e d := wOK_all fun n hn => hwx n (.inr (.inl hn))
      have each : ∀ i, i < len → ∃ row vs, w.cells? base (a.add (i * P.cellsOf e)) (P.cellsOf e) = some row ∧ row.length = P.cellsOf e ∧ CV w vs row ∧ tyV P f e vs := by
        intro i hi
        have h1 := hel i hi
        have h2 : elems[i]? = some elems[i] := List.getElem?_eq_getElem (by omega)
        rw [h2, Option.bind_eq_some_iff] at h1
        obtain ⟨row, h3, h4⟩ := h1
        have h5 := (World.cells?_some h3).2.1
        obtain ⟨vs, c, ty⟩ := read_cells f e row hp.2 ⟨n, _, h4, hwe _ (List.mem_map.2 ⟨_, List.getElem_mem _, rfl⟩)⟩ h5
        exact ⟨row, vs, h3, h5, c, ty⟩
      obtain ⟨row0, _, g1, g2, _, _⟩ := each 0 (by omega)
      have hspot : a.spot = none := by
        have h3 := (World.cells?_some g1).2.2 0 hp.1
        simp only [Nat.zero_mul] at h3
        have h4 : row0[0]? = some row0[0] := List.getElem?_eq_getElem (by omega)
        have e0 : (a.add 0).add 0 = a := by simp [Addr.add]
        rw [h4, e0] at h3
        unfold World.cell? at h3
        split at h3
        · split at h3
          · cases h3
          · rename_i hs; simpa using hs
        · cases h3
      have hlt : a.block < w.heap.size := by
        have h3 := (World.cells?_some g1).2.2 0 hp.1
        simp only [Nat.zero_mul] at h3
        have h4 : row0[0]? = some row0[0] := List.getElem?_eq_getElem (by omega)
        have e0 : (a.add 0).add 0 = a := by simp [Addr.add]
        rw [h4, e0] at h3
        unfold World.cell? at h3
        split at h3
        · rename_i hh; exact (Array.getElem?_eq_some_iff.1 hh).1
        · cases h3
      have haddr : ∀ i j, (a.add (i * P.cellsOf e)).add j = ⟨a.block, a.off + i * P.cellsOf e + j, none⟩ := by
        intro i j
        obtain ⟨b, off, sp⟩ := a
        simp only at hspot
        subst hspot
        unfold Addr.add
        by_cases h1 : i * P.cellsOf e = 0
        · rw [if_pos h1]
          by_cases h2 : j = 0
          · rw [if_pos h2]; simp [h1, h2]
          · rw [if_neg h2]; simp [h1]
        · rw [if_neg h1]
          by_cases h2 : j = 0
          · rw [if_pos h2]; simp [h2]
          · rw [if_neg h2]
      -- the rows
      have rows : ∀ k, k ≤ len → ∃ els : List (List V), els.length = k ∧ ∀ i row, els[i]? = some row → tyV P f e row ∧ ∃ vs, w.cells? base (a.add (i * P.cellsOf e)) (P.cellsOf e) = some vs ∧ vs.length = P.cellsOf e ∧ CV w row vs := by
        intro k
        induction k with
        | zero => intro _; exact ⟨[], rfl, by simp⟩
        | succ k ih =>
          intro hk
          obtain ⟨els, h1, h2⟩ := ih (by omega)
          obtain ⟨row, vs, h3, h4, h5, h6⟩ := each k (by omega)
          refine ⟨els ++ [vs], by simp [h1], fun i r hr => ?_⟩
          rw [List.getElem?_append] at hr
          split at hr
          · exact h2 i r hr
          · rename_i hi
            have : i - els.length = 0 := by
              cases hd : i - els.length with
              | zero => rfl
              | succ m => rw [hd] at hr; simp at hr
            rw [this] at hr
            simp only [List.getElem?_cons_zero, Option.some.injEq] at hr
            subst hr
            have : i = k := by omega
            subst this
            exact ⟨h6, row, h3, h4, h5⟩
      obtain ⟨els, l1, l2⟩ := rows len (Nat.le_refl _)
      refine ⟨[.sl (P.cellsOf e) els], .one ?_ rfl, els, rfl, by omega, by rw [l1, ← hlen2]; exact hbl, fun row hrow => ?_⟩
      · have hcell : ∀ i j row c, els[i]? = some row → row[j]? = some c → ∃ u, w.cell? ⟨a.block, a.off + i * P.cellsOf e + j, none⟩ = some u ∧ u.oneCell' = true ∧ PV w (fun _ => False) c u := by
          intro i j row c hr hc
          obtain ⟨_, vs, k1, k2, k3⟩ := l2 i row hr
          obtain ⟨k4, k5⟩ := k3.2 j c hc
          have hj : j < P.cellsOf e := by have := (List.getElem?_eq_some_iff.1 hc).1; rw [k3.1, k2] at this; exact this
          have := (World.cells?_some k1).2.2 j hj
          rw [haddr, List.getElem?_eq_getElem (by omega)] at this
          refine ⟨_, this, ?_, ?_⟩
          · have e1 : vs.getD j und = vs[j] := by simp [List.getD, List.getElem?_eq_getElem (show j < vs.length by omega)]
            rw [← e1]; exact k5
          · have e1 : vs.getD j und = vs[j] := by simp [List.getD, List.getElem?_eq_getElem (show j < vs.length by omega)]
            rw [← e1]; exact k4
        have := PV.sl (w := w) (A := fun _ => False) (P.cellsOf e) els a.block a.off cap (fun i j => (w.cell? ⟨a.block, a.off + i * P.cellsOf e + j, none⟩).getD und) (by omega) hlt (fun h => h)
          (fun row hrow => by
            obtain ⟨i, hi⟩ := List.getElem?_of_mem hrow
            obtain ⟨_, vs, k1, k2, k3⟩ := l2 i row hi
            rw [k3.1, k2])
          (fun i j row c hr hc => by
            obtain ⟨u, k1, k2, k3⟩ := hcell i j row c hr hc
            rw [k1]; exact ⟨rfl, k2⟩)
          (fun i j row c hr hc => by
            obtain ⟨u, k1, k2, k3⟩ := hcell i j row c hr hc
            rw [k1]; exact k3)
        rw [l1] at this
        obtain ⟨b, off, sp⟩ := a
        simp only at hspot
        subst hspot
        exact this
      · obtain ⟨i, hi⟩ := List.getElem?_of_mem hrow
        exact (l2 i row hi).1
    case struct fs =>
      simp only [Bool.and_eq_true, List.all_eq_true] at hp
      unfold DataW.trod at hx
      rw [hu] at hx
      simp only at hx
      split at hx <;> try (simp_all; done)
      rename_i hl
      simp only [Option.map_eq_some_iff] at hx
      obtain ⟨ys, hys, rfl⟩ := hx
      unfold wOK DataW.weights at hwx
      rw [hu] at hwx
      simp only at hwx
      obtain ⟨vs, c, ty⟩ := struct_cells (f := f) (fun fl hfl cs h1 h2 => read_cells f fl.type cs hfl h1 h2) fs.toList 0 (P.cellsOf t) hp.1 hl (Nat.zero_le _) (fun fl hfl => ⟨hp.2 fl hfl, fuel, wOK_each hys hwx fl hfl⟩)
      rw [List.drop_zero] at c
      exact ⟨vs, c, by rw [c.1, hl], fun fl hfl => by simpa using (ty fl hfl).2⟩
    case array n e =>
      simp only [Bool.and_eq_true, decide_eq_true_eq] at hp
      unfold DataW.trod at hx
      rw [hu] at hx
      simp only at hx
      split at hx <;> try (simp_all; done)
      rename_i hl
      simp only [Option.map_eq_some_iff] at hx
      obtain ⟨ys, hys, rfl⟩ := hx
      unfold wOK DataW.weights at hwx
      rw [hu] at hwx
      simp only at hwx
      obtain ⟨vs, c, ty⟩ := array_cells (f := f) (e := e) (fun cs h1 h2 => read_cells f e cs hp.2 h1 h2) (n := n) (by rw [hl, hp.1]) (fun i hi => ⟨fuel, by
        obtain ⟨y, hy, ey⟩ := mapM_mem hys i (by simpa using hi)
        exact ⟨y, ey, wOK_all hwx _ (List.mem_map.2 ⟨y, hy, rfl⟩)⟩⟩) n (Nat.le_refl _)
      rw [List.take_of_length_le (by rw [hl, hp.1]; exact Nat.le_refl _)] at c
      exact ⟨vs, c, by rw [c.1, hl], ty⟩
end

omit [Gls] in
theorem rows_map {α : Type} {R : α → List V} : ∀ {els : List (List V)}, (∀ row ∈ els, ∃ a, row = R a) → ∃ l : List α, els = l.map R
  | [], _ => ⟨[], rfl⟩
  | r :: els, h => by
    obtain ⟨a, ha⟩ := h r (by simp)
    obtain ⟨l, hl⟩ := rows_map (els := els) (fun row hr => h row (by simp [hr]))
    exact ⟨a :: l, by simp [ha, hl]⟩

/-- An argument's shape, by its type. -/
def argTy (P : Program) (g : Nat) (t : TypeId) (x : V) : Prop := if isAg P t = true then ∃ vs, x = .agg vs ∧ tyV P g t vs else tyV P g t [x]

def argB (P : Program) (g : Nat) (t : TypeId) : Bool := plain P g t && (isAg P t || P.cellsOf t == 1) && P.readableRec t && decide (t < P.types.size)

section
variable {H : Type} {enc : TypeId × Value → H} {P : Program} {w : World} {spare : Nat → Bool} {held : Bool}

omit [Gls] in
theorem arg_read {g : Nat} {t : TypeId} {v : Value} {d : DataW H} {ps : List MemPlace} {r : Reach} {b0 : Nat} (hb : argB P g t = true) (hok : Value.okWide P w r b0 t v) (hd : DataW.Trod enc P w 0 spare held t v d ps) (hwx : wOK P t d) :
    ∃ x, PV w (fun _ => False) x v ∧ argTy P g t x := by
  simp only [argB, Bool.and_eq_true, Bool.or_eq_true, beq_iff_eq] at hb
  obtain ⟨⟨⟨hp, hc⟩, _⟩, _⟩ := hb
  obtain ⟨fuel, hx⟩ := hd
  by_cases ha : isAg P t = true
  · have : ∃ cs, v = .agg cs ∧ cs.size = P.cellsOf t := by
      unfold Value.okWide at hok
      unfold isAg at ha
      cases hu : P.underlying t with
      | none => simp [hu] at ha
      | some u =>
        rw [hu] at hok ha
        cases u <;> simp at ha hok
        · obtain ⟨cs, h1, h2, _⟩ := hok; exact ⟨cs, h1, h2⟩
        · obtain ⟨cs, h1, h2, _⟩ := hok; exact ⟨cs, h1, h2⟩
    obtain ⟨cs, rfl, hs⟩ := this
    obtain ⟨vs, c, ty⟩ := read_cells g t cs.toList hp ⟨fuel, _, hx, hwx⟩ (by simpa using hs)
    refine ⟨.agg vs, .agg vs cs (by simpa using c.1.symm) fun i x hi => ?_, ?_⟩
    · have := (c.2 i x hi).1
      simpa [Array.getD_eq_getD_getElem?, List.getD_eq_getElem?_getD] using this
    · unfold argTy; rw [if_pos ha]; exact ⟨vs, rfl, ty⟩
  · have hc1 : P.cellsOf t = 1 := by rcases hc with h | h; exact absurd h ha; exact h
    have hv : v.cells.toList = [v] := by
      have hna : ∀ cs, v ≠ .agg cs := by
        rintro cs rfl
        unfold Value.okWide at hok
        unfold isAg at ha
        cases hu : P.underlying t with
        | none => cases g <;> simp [plain, hu] at hp
        | some u =>
          rw [hu] at hok ha
          cases u <;> simp [Cell.okWide, Cell.ok, hu] at ha hok
      cases v <;> first | rfl | exact absurd rfl (hna _)
    rw [hv] at hx
    obtain ⟨vs, c, ty⟩ := read_cells g t [v] hp ⟨fuel, _, hx, hwx⟩ (by simp [hc1])
    have hl := c.1
    cases vs with
    | nil => simp at hl
    | cons x r =>
      have : r = [] := List.eq_nil_of_length_eq_zero (by simpa using hl)
      subst this
      refine ⟨x, by simpa using (c.2 0 x rfl).1, ?_⟩
      unfold argTy; rw [if_neg ha]; exact ty

omit [Gls] in
theorem args_read {g : Nat} {r : Reach} {b0 : Nat} : ∀ (ts : List TypeId) (vs : List Value) (ds : List (DataW H)) (ps : List MemPlace), DataW.TrodAll enc P w 0 spare held ts vs ds ps → (∀ n ∈ DataW.weightsEach P ts ds, n ≤ reachBytes) → (∀ (j : Nat) t v, ts[j]? = some t → vs[j]? = some v → Value.okWide P w r b0 t v) →
    (ts.all (argB P g)) = true → vs.length = ts.length ∧ ds.length = ts.length ∧ ∃ xs : List V, xs.length = ts.length ∧ (∀ (i : Nat) t x, ts[i]? = some t → xs[i]? = some x → argTy P g t x) ∧ ∀ (i : Nat) x, xs[i]? = some x → PV w (fun _ => False) x (vs.getD i und)
  | [], [], [], ps, _, _, _, _ => ⟨rfl, rfl, [], rfl, by simp, by simp⟩
  | t :: ts, v :: vs, d :: ds, ps, h, hwt, hok, hb => by
    obtain ⟨p, q, h1, h2, _⟩ := h
    simp only [DataW.weightsEach, List.mem_append] at hwt
    simp only [List.all_cons, Bool.and_eq_true] at hb
    obtain ⟨x, hx, hty⟩ := arg_read hb.1 (hok 0 t v rfl rfl) h1 (fun n hn => hwt n (.inl hn))
    obtain ⟨e1, e2, xs, e3, e4, e5⟩ := args_read ts vs ds q h2 (fun n hn => hwt n (.inr hn)) (fun j t v ht hv => hok (j + 1) t v (by simpa using ht) (by simpa using hv)) hb.2
    refine ⟨by simp [e1], by simp [e2], x :: xs, by simp [e3], ?_, ?_⟩
    · intro i t' x' ht hx'
      cases i with
      | zero => simp at ht hx'; subst ht hx'; exact hty
      | succ i => exact e4 i t' x' (by simpa using ht) (by simpa using hx')
    · intro i x' hx'
      cases i with
      | zero => simp at hx'; subst hx'; simpa using hx
      | succ i => simpa using e5 i x' (by simpa using hx')
  | [], _ :: _, _, _, h, _, _, _ => h.elim
  | [], [], _ :: _, _, h, _, _, _ => h.elim
  | _ :: _, [], _, _, h, _, _, _ => h.elim
  | _ :: _, _ :: _, [], _, h, _, _, _ => h.elim

omit [Gls] in
theorem args_below {g : Nat} {w' : World} (hl : laidOutB P = true) (hb : Below w.heap.size w w') : ∀ (ts : List TypeId) (vs : List Value) (ds : List (DataW H)) (ps : List MemPlace), DataW.TrodAll enc P w 0 (fun _ => true) true ts vs ds ps → (ts.all (argB P g)) = true → (∀ x ∈ ps, x.block < w.heap.size) →
    DataW.TrodAll enc P w' 0 (fun b => decide (b < w.heap.size)) true ts vs ds ps
  | [], [], [], ps, h, _, _ => h
  | t :: ts, v :: vs, d :: ds, ps, h, ha, hlt => by
    obtain ⟨p, q, h1, h2, rfl⟩ := h
    simp only [List.all_cons, Bool.and_eq_true] at ha
    have h3 := ha.1
    simp only [argB, Bool.and_eq_true, decide_eq_true_eq] at h3
    exact ⟨p, q, Below.trod hl h3.1.2 h3.2 h1 hb (fun x hx => hlt x (by simp [hx])), args_below hl hb ts vs ds q h2 ha.2 (fun x hx => hlt x (by simp [hx])), rfl⟩
  | [], _ :: _, _, _, h, _, _ => h.elim
  | [], [], _ :: _, _, h, _, _ => h.elim
  | _ :: _, [], _, _, h, _, _ => h.elim
  | _ :: _, _ :: _, [], _, h, _, _ => h.elim

end

/-- A law: whatever it is handed, it returns true, and all that was there is as it was. -/
theorem law_lifted {C : Checked} {os : Os} (started : os.Started) {H : Type} {enc : TypeId × Value → H} {f : FuncId} {fn : Func} {s : ChangeSpec} {S : PSpec} (g : Nat) (tb : TypeId)
    (hG0 : ∀ g, Gls.G g = none) (hown : ownKnob C.prog.godebug = none) (hl : laidOutB C.prog = true) (hin : C.prog.inits.idxOf? f = none) (hf : C.prog.funcs[f]? = some fn) (hOK : FnOK C.prog f (.pure S))
    (hvars : s.vars = []) (hspec : ∀ ds : List (DataW H), ds.length = fn.params.size → s.fn H ds = { results := [.lit (.bool true)], args := ds })
    (hrt : fn.resultTypes = #[tb]) (htb : C.prog.underlying tb = some .bool) (hpl : fn.params.toList.all (argB C.prog g) = true)
    (hopen : ∀ xs : List V, xs.length = fn.params.size → (∀ (i : Nat) t x, fn.params.toList[i]? = some t → xs[i]? = some x → argTy C.prog g t x) → ∃ d, S.pre d ∧ S.res d = .bool true ∧ S.enc d = xs)
    (witness : ∃ (w : World) (tape : Tape) (i : Input), w.os = os ∧ (w.forCall tape i).Shaped C.prog ∧ i.vars = [] ∧ Input.okWide C.prog (w.forCall tape i) .any w.heap.size f i ∧
      s.pre6 enc C.prog fn [] false (w.forCall tape i).memory i.args ∧ ({} : Assume).holds C.prog (lone (Frame.enter C.prog f i.args .normal) [] (w.forCall tape i))) :
    ReturnsInHanded {} C os f .any (s.pre6 enc C.prog fn [] false) (s.post enc C.prog fn false true false false) := by
  refine returnsInHanded_of_change_sized hown started hin hf witness ?_
  intro W base args ds gs before hval hW _ hwt _
  have hW' := hW
  obtain ⟨p, q, hA, hV, rfl, hfz, hnd⟩ := hW
  rw [hvars] at hV
  have hgs : gs = [] ∧ q = [] := by
    cases gs with
    | nil => exact ⟨rfl, hV⟩
    | cons a b => exact hV.elim
  obtain ⟨rfl, rfl⟩ := hgs
  rw [show s.plain.varTypes C.prog = [] by unfold ChangeSpec.plain DataSpec.varTypes; simp [hvars], List.append_nil, List.append_nil, List.all_eq_true] at hwt
  obtain ⟨e1, e2, xs, e3, e4, e5⟩ := args_read (g := g) _ _ _ _ hA (fun n hn => by simpa using hwt n hn) (fun j t v ht hv => hval j t v (by simpa using ht) (by simpa using hv)) hpl
  obtain ⟨d, hd1, hd2, hd3⟩ := hopen xs (by simpa using e3) e4
  refine ((hOK.pure S rfl) d hd1 W (fun _ => False) args (fun g v hg => by rw [hG0] at hg; cases hg) (fun _ h => h.elim) (by rw [hd3, e3]; simpa using e1) (fun i c hc => ?_)).mono fun e W' hres => ?_
  · rw [hd3] at hc
    have := e5 i c hc
    simpa [Array.getD_eq_getD_getElem?, List.getD_eq_getElem?_getD] using this
  obtain ⟨v, rfl, hb, hv⟩ := hres
  rw [hd2] at hv
  cases hv
  refine ⟨_, rfl, ds, [], p ++ [], [], p, [], hW', ?_, ?_, ?_, hb.frame _, fun h => by cases h⟩
  · rw [hrt]
    have h1 : s.fn H (ds ++ []) = { results := [.lit (.bool true)], args := ds } := by rw [List.append_nil]; exact hspec ds (by simpa using e2)
    rw [h1]
    exact ⟨[], [], shut_bool htb true, rfl, rfl⟩
  · have h1 : s.fn H (ds ++ []) = { results := [.lit (.bool true)], args := ds } := by rw [List.append_nil]; exact hspec ds (by simpa using e2)
    rw [h1]
    exact args_below hl hb _ _ _ _ hA hpl (fun x hx => hW'.lt x (by simpa using hx))
  · rw [hvars]
    have h1 : s.fn H (ds ++ []) = { results := [.lit (.bool true)], args := ds } := by rw [List.append_nil]; exact hspec ds (by simpa using e2)
    rw [h1]
    exact rfl
end Go.Sx
end
section
/- What arguments read as, for any seat. No conditions. -/
set_option linter.unusedSimpArgs false
set_option maxRecDepth 100000
namespace Go.Sx
open Go.RowKit
variable [Gls]

section
variable {P : Program} {g : Nat} {t : TypeId} {vs : List V}
theorem tyV_fld {k o : Nat} {ft : TypeId} (h : tyV P (g + 1) t vs) (hf : fld P t k = some (o, ft)) : tyV P g ft ((vs.drop o).take (P.cellsOf ft)) := by
  simp only [tyV] at h
  unfold fld at hf
  cases hu : P.underlying t with
  | none => simp [hu] at hf
  | some u =>
    rw [hu] at h hf
    cases u <;> simp only at h hf <;> try (cases hf; done)
    rename_i fs
    cases hk : fs[k]? with
    | none => simp [hk] at hf
    | some fl =>
      simp only [hk, Option.map_some, Option.some.injEq, Prod.mk.injEq] at hf
      obtain ⟨rfl, rfl⟩ := hf
      exact h.2 fl (Array.mem_toList_iff.2 (Array.mem_of_getElem? hk))
theorem tyV_len (h : tyV P (g + 1) t vs) (ha : isAg P t = true) : vs.length = P.cellsOf t := by
  simp only [tyV] at h
  unfold isAg at ha
  cases hu : P.underlying t with
  | none => simp [hu] at ha
  | some u =>
    rw [hu] at h ha
    cases u <;> simp only at h ha <;> first | (cases ha; done) | exact h.1
theorem tyV_int {k : IntKind} (h : tyV P (g + 1) t vs) (hk : intK P t = some k) : ∃ n, vs = [.int k n] ∧ (Lit.int k n).wf = true := by
  simp only [tyV] at h
  unfold intK at hk
  cases hu : P.underlying t with
  | none => simp [hu] at hk
  | some u =>
    rw [hu] at h hk
    cases u <;> simp only at h hk <;> try (cases hk; done)
    cases hk
    exact h
theorem tyV_sl {e : TypeId} (h : tyV P (g + 1) t vs) (hk : slEl P t = some e) : ∃ els, vs = [.sl (P.cellsOf e) els] ∧ els.length ≤ 9223372036854775807 ∧ ∀ row ∈ els, tyV P g e row := by
  simp only [tyV] at h
  unfold slEl at hk
  cases hu : P.underlying t with
  | none => simp [hu] at hk
  | some u =>
    rw [hu] at h hk
    cases u <;> simp only at h hk <;> try (cases hk; done)
    cases hk
    obtain ⟨els, h1, h2, _, h3⟩ := h
    exact ⟨els, h1, by simpa [maxLen] using h2, h3⟩
/-- The same, with the bound of memory. -/
theorem tyV_slw {e : TypeId} (h : tyV P (g + 1) t vs) (hk : slEl P t = some e) : ∃ els, vs = [.sl (P.cellsOf e) els] ∧ els.length * P.bytesOf e ≤ 140737488351232 ∧ ∀ row ∈ els, tyV P g e row := by
  simp only [tyV] at h
  unfold slEl at hk
  cases hu : P.underlying t with
  | none => simp [hu] at hk
  | some u =>
    rw [hu] at h hk
    cases u <;> simp only at h hk <;> try (cases hk; done)
    cases hk
    obtain ⟨els, h1, _, h2, h3⟩ := h
    exact ⟨els, h1, by simpa [reachBytes] using h2, h3⟩
theorem tyV_arr {n : Nat} {e : TypeId} (h : tyV P (g + 1) t vs) (hk : arEl P t = some (n, e)) : ∀ i, i < n → tyV P g e ((vs.drop (i * P.cellsOf e)).take (P.cellsOf e)) := by
  simp only [tyV] at h
  unfold arEl at hk
  cases hu : P.underlying t with
  | none => simp [hu] at hk
  | some u =>
    rw [hu] at h hk
    cases u <;> simp only at h hk <;> try (cases hk; done)
    cases hk
    exact h.2
theorem argTy_one {x : V} (h : argTy P g t x) (ha : isAg P t = false) : tyV P g t [x] := by
  unfold argTy at h; rw [if_neg (by rw [ha]; decide)] at h; exact h
theorem argTy_agg {x : V} (h : argTy P g t x) (ha : isAg P t = true) : ∃ vs, x = .agg vs ∧ tyV P g t vs := by
  unfold argTy at h; rw [if_pos ha] at h; exact h
end

end Go.Sx
end
