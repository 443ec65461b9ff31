/- A part of a proof; no conditions. -/
import Derived.Test.YtcbcajnkdknkdaaDoorP20
set_option linter.unusedSimpArgs false
set_option linter.unusedVariables false
set_option linter.unusedSectionVars false
section
/- Parts: Due, the program's and the reference's; the law about flights. No conditions. -/
set_option linter.unusedSimpArgs false
set_option linter.unusedSectionVars false
set_option maxRecDepth 100000
set_option maxHeartbeats 4000000
namespace Go.Sx
open Go.Proofs
attribute [local irreducible] HLe
attribute [local simp] hps_app

def dueIs (s : HG) (o k : Nat) : Bool := s.iss.getD o false && (((s.ps.getD k default).kind == (s.r.orders.getD o default).kind) && (!((s.ps.getD k default).chk.getD o false) && !((s.ps.getD k default).a == -2 && (s.ps.getD k default).b == -2)))
def pickTo (f : Nat → Bool) : Nat → List Int
  | 0 => []
  | k + 1 => if f k = true then pickTo f k ++ [(k : Int)] else pickTo f k
theorem pickTo_len (f : Nat → Bool) : ∀ k, (pickTo f k).length ≤ k
  | 0 => by simp [pickTo]
  | k + 1 => by
    have := pickTo_len f k
    simp only [pickTo]; split <;> simp <;> omega
def dueF (r : Reg) (l : List Wk) (o : Int) : List Int := if opE r l = 0 then (if RS.ordA r o = true then pickTo (dueIs (opH r l) o.toNat) r.parts.length else []) else []
def dueE (r : Reg) (l : List Wk) (o : Int) : Int := if opE r l = 0 then (if RS.ordA r o = true then 0 else 1) else opE r l
noncomputable abbrev dueS : PSpec := mkP rnE RLN.Fine fun d => .tup [ints (dueF d.r d.l d.n), .int .i64 (dueE d.r d.l d.n)]
noncomputable abbrev E35 : Env := { P := Tryd.prog, fn := tbl [(50, .pure openS), (70, .pure orderS)], own := [], key := 3500, nt := 84 }
theorem b35 : PureBody E35 [] Tryd.f35 dueS := by
  refine pb ?_
  rintro ⟨r, l, o⟩ hfn
  have hfn' : RL.Fine ⟨r, l⟩ := hfn
  by_cases hE : opE r l = 0
  case neg =>
    have hR : dueF r l o = [] := by simp [dueF, hE]
    have hR2 : dueE r l o = opE r l := by simp [dueE, hE]
    simp -dsimp [Tryd.f35, E35, Reg.row]
    repeat' (first | omega | (exact sub0_snV _) | (exact sub0_dnV _) | (simp -dsimp [E35, ri, cellp, ints, rlE_dec', hfn', hE, hR, hR2, ints]) | (refine Also.intro ?_ fun _ => ?_) | (refine Hold.intro fun _ => ?_) | (refine And.intro ?_ ?_))
  obtain ⟨hWf, hRel⟩ := opE_rel hE
  obtain ⟨v1, v2, v3, v4, v5, v6, v7, v8⟩ := valid_facts hWf.val
  have hoq := hRel.ordq o
  cases hp : RS.ordA r o
  · rw [hp] at hoq
    have hR : dueF r l o = [] := by simp [dueF, hE, hp]
    have hR2 : dueE r l o = 1 := by simp [dueE, hE, hp]
    generalize hs : opH r l = s at *
    simp -dsimp [Tryd.f35, E35, Reg.row]
    repeat' (first | omega | (exact sub0_snV _) | (exact sub0_dnV _) | (simp -dsimp [E35, ri, cellp, ints, rlE_dec', hfn', hE, hs, HI.v, hiE_dec', hoq, hR, hR2, ints]) | (refine Also.intro ?_ fun _ => ?_) | (refine Hold.intro fun _ => ?_) | (refine And.intro ?_ ?_))
  rw [hp] at hoq
  obtain ⟨oi, rfl, hoi⟩ := withinB_nat (m := r.orders.length) (by omega) hp
  have hR : dueF r l oi = pickTo (dueIs (opH r l) oi) r.parts.length := by simp [dueF, hE, hp]
  have hR2 : dueE r l oi = 0 := by simp [dueE, hE, hp]
  have hOk := opE_ok hE
  have hI := (opE_inv hE).2.2.2
  rw [hR, hR2]
  clear hR hR2
  generalize hs : opH r l = s at *
  have hpl := hRel.psl
  have hips : s.i.ps = s.ps := rfl
  have hdi := hiE_dec' s.i (oi : Int)
  simp only [hips] at hdi
  have hir : s.i.r = s.r := rfl
  have hii : s.i.iss = s.iss := rfl
  have hsr := hRel.rg
  have hoi2 : oi < s.r.orders.length := by rw [hsr]; exact hoi
  obtain ⟨od, hod, hod'⟩ := get_ex hoi2
  have hol : oi < s.iss.length := by have := hOk.iss; omega
  obtain ⟨b1, hb1, hb1'⟩ := get_ex hol
  simp -dsimp [Tryd.f35, E35, Reg.row]
  repeat' (first | omega | (exact sub0_snV _) | (exact sub0_dnV _) | (simp -dsimp [E35, ri, cellp, ints, rlE_dec', hfn', hE, hs, HI.v, hdi, hoq, hips, hpl]) | (refine Also.intro ?_ fun _ => ?_) | (refine Hold.intro fun _ => ?_) | (refine And.intro ?_ ?_))
  refine awp_loop_g [(6, 3581, 1, 3)] rfl (by simp) [32, 33, 34, 35, 10, 11, 36, 37, 38, 39, 40, 41, 42, 43, 44, 45, 46, 47, 48, 49, 50, 51, 52, 53, 54, 55, 56, 57, 58, 59, 60, 61, 62, 63, 64, 65, 66, 67, 68, 69, 70, 71, 72, 73, 74, 75, 76, 77, 78, 79, 80, 81, 6, 82, 31] (fun k : Fin (r.parts.length + 1) => [(31, (true, .int .i64 (k.1 : Nat))), (6, (true, .bsl 3581 0 (pickTo (dueIs s oi) k.1).length))])
    (fun k => hps [(3581, { base := 0, blks := [{ z := 1, els := (pickTo (dueIs s oi) k.1).map ri, ty := 3 }] }), (3503, { base := 1, blks := [] })] noH) (fun k => r.parts.length - k.1) ⟨0, by omega⟩ ?_ ?_ ?_
  · simp [okAll, okv, pickTo]
  · exact (by (try simp -dsimp only [hpush_noH, hpush_hps, hps_over]); refine hle_hps ?_; simp -dsimp [allK, pickTo]; repeat' (first | (refine And.intro ?_ ?_) | (refine sLe.same ?_ ?_ <;> (simp; done)) | (refine sLe.clear ?_ ?_ <;> (first | (simp; done) | (simp; omega))) | (refine sLe.drop 1 ?_ ?_ ?_ <;> (simp; done))))
  rintro ⟨k, hk⟩
  simp only
  by_cases hk1 : k < r.parts.length
  · have hki : (k : Int) < r.parts.length := by omega
    have hwk : IntKind.wrap .i64 ((k : Int) + 1) = (k + 1 : Nat) := wrap_id (by omega) (by omega)
    have hk2 : k < s.ps.length := by omega
    obtain ⟨p, hpk, hpk'⟩ := get_ex hk2
    have hpf := hOk.fit p (hpk' ▸ List.getElem_mem hk2)
    have hcl : oi < p.chk.length := by rw [hpf.chk]; exact hoi2
    obtain ⟨b2, hb2, hb2'⟩ := get_ex hcl
    have hpt := ptsI_ne (ps := s.ps) (by omega)
    have hD : dueIs s oi k = (b1 && ((p.kind == od.kind) && (!b2 && !(p.a == -2 && p.b == -2)))) := by simp [dueIs, List.getD, hb1, hpk, hod, hb2]
    have hP : pickTo (dueIs s oi) (k + 1) = if dueIs s oi k = true then pickTo (dueIs s oi) k ++ [(k : Int)] else pickTo (dueIs s oi) k := rfl
    have hPl := pickTo_len (dueIs s oi) k
    have hb8 : ((pickTo (dueIs s oi) k).length + 1) * 8 ≤ 140737488355328 := by omega
    rw [hD] at hP
    generalize pickTo (dueIs s oi) k = P at *
    cases b1
    · rw [Bool.false_and, if_neg (by simp)] at hP
      simp -dsimp [hki, hpt]
      repeat' (first | omega | (exact sub0_snV _) | (exact sub0_dnV _) | (simp -dsimp [E35, ri, cellp, ints, hki, hpl, hk1, hpt, hpk, hpk', hk2, ptI, PS.irow, hol, hb1, hb1', rb, hii, hwk]) | (refine Also.intro ?_ fun _ => ?_) | (refine Hold.intro fun _ => ?_) | (refine And.intro ?_ ?_))
      refine ⟨⟨k + 1, by omega⟩, tle_chain rfl ?_, (by (try simp -dsimp only [hpush_noH, hpush_hps, hps_over]); refine hle_hps ?_; simp -dsimp [allK, hP]; repeat' (first | (refine And.intro ?_ ?_) | (refine sLe.same ?_ ?_ <;> (simp; done)) | (refine sLe.clear ?_ ?_ <;> (first | (simp; done) | (simp; omega))) | (refine sLe.drop 1 ?_ ?_ ?_ <;> (simp; done)))), by simp only; omega⟩
      simp [okAll, okv, hP]
    by_cases hkd : p.kind = od.kind
    case neg =>
      have hkd' : (p.kind == od.kind) = false := by simpa using hkd
      have hkd2 : (p.kind = od.kind) = False := eq_false hkd
      rw [hkd', Bool.false_and, Bool.and_false, if_neg (by simp)] at hP
      simp -dsimp [hki, hpt]
      repeat' (first | omega | (exact sub0_snV _) | (exact sub0_dnV _) | (simp -dsimp [E35, ri, cellp, ints, hki, hpl, hk1, hpt, hpk, hpk', hk2, ptI, PS.irow, hol, hb1, hb1', rb, hii, hir, hoi2, hod, hod', Od.row, hkd', hkd2, hwk]) | (refine Also.intro ?_ fun _ => ?_) | (refine Hold.intro fun _ => ?_) | (refine And.intro ?_ ?_))
      refine ⟨⟨k + 1, by omega⟩, tle_chain rfl ?_, (by (try simp -dsimp only [hpush_noH, hpush_hps, hps_over]); refine hle_hps ?_; simp -dsimp [allK, hP]; repeat' (first | (refine And.intro ?_ ?_) | (refine sLe.same ?_ ?_ <;> (simp; done)) | (refine sLe.clear ?_ ?_ <;> (first | (simp; done) | (simp; omega))) | (refine sLe.drop 1 ?_ ?_ ?_ <;> (simp; done)))), by simp only; omega⟩
      simp [okAll, okv, hP]
    have hkd' : (p.kind == od.kind) = true := by simpa using hkd
    rw [hkd'] at hP
    cases b2
    case true =>
      rw [if_neg (by simp)] at hP
      simp -dsimp [hki, hpt]
      repeat' (first | omega | (exact sub0_snV _) | (exact sub0_dnV _) | (simp -dsimp [E35, ri, cellp, ints, hki, hpl, hk1, hpt, hpk, hpk', hk2, ptI, PS.irow, hol, hb1, hb1', rb, hii, hir, hoi2, hod, hod', Od.row, hkd, hcl, hb2, hb2', hwk]) | (refine Also.intro ?_ fun _ => ?_) | (refine Hold.intro fun _ => ?_) | (refine And.intro ?_ ?_))
      refine ⟨⟨k + 1, by omega⟩, tle_chain rfl ?_, (by (try simp -dsimp only [hpush_noH, hpush_hps, hps_over]); refine hle_hps ?_; simp -dsimp [allK, hP]; repeat' (first | (refine And.intro ?_ ?_) | (refine sLe.same ?_ ?_ <;> (simp; done)) | (refine sLe.clear ?_ ?_ <;> (first | (simp; done) | (simp; omega))) | (refine sLe.drop 1 ?_ ?_ ?_ <;> (simp; done)))), by simp only; omega⟩
      simp [okAll, okv, hP]
    cases hsc : (p.a == -2 && p.b == -2)
    · rw [hsc, if_pos (by simp)] at hP
      simp -dsimp [hki, hpt]
      repeat' (first | omega | (exact sub0_snV _) | (exact sub0_dnV _) | (simp -dsimp [E35, ri, cellp, ints, hki, hpl, hk1, hpt, hpk, hpk', hk2, ptI, PS.irow, hol, hb1, hb1', rb, hii, hir, hoi2, hod, hod', Od.row, hkd, hcl, hb2, hb2', hsc, hb8, ri, hwk]) | (refine Also.intro ?_ fun _ => ?_) | (refine Hold.intro fun _ => ?_) | (refine And.intro ?_ ?_))
      refine ⟨⟨k + 1, by omega⟩, tle_chain rfl ?_, (by (try simp -dsimp only [hpush_noH, hpush_hps, hps_over]); refine hle_hps ?_; simp -dsimp [allK, hP, ri]; repeat' (first | (refine And.intro ?_ ?_) | (refine sLe.same ?_ ?_ <;> (simp; done)) | (refine sLe.clear ?_ ?_ <;> (first | (simp; done) | (simp; omega))) | (refine sLe.drop 1 ?_ ?_ ?_ <;> (simp; done)))), by simp only; omega⟩
      simp [okAll, okv, hP]
    · rw [hsc, if_neg (by simp)] at hP
      simp -dsimp [hki, hpt]
      repeat' (first | omega | (exact sub0_snV _) | (exact sub0_dnV _) | (simp -dsimp [E35, ri, cellp, ints, hki, hpl, hk1, hpt, hpk, hpk', hk2, ptI, PS.irow, hol, hb1, hb1', rb, hii, hir, hoi2, hod, hod', Od.row, hkd, hcl, hb2, hb2', hsc, hwk]) | (refine Also.intro ?_ fun _ => ?_) | (refine Hold.intro fun _ => ?_) | (refine And.intro ?_ ?_))
      refine ⟨⟨k + 1, by omega⟩, tle_chain rfl ?_, (by (try simp -dsimp only [hpush_noH, hpush_hps, hps_over]); refine hle_hps ?_; simp -dsimp [allK, hP]; repeat' (first | (refine And.intro ?_ ?_) | (refine sLe.same ?_ ?_ <;> (simp; done)) | (refine sLe.clear ?_ ?_ <;> (first | (simp; done) | (simp; omega))) | (refine sLe.drop 1 ?_ ?_ ?_ <;> (simp; done)))), by simp only; omega⟩
      simp [okAll, okv, hP]
  · have hkn : ¬ (k : Int) < r.parts.length := by omega
    have hke : k = r.parts.length := by omega
    subst hke
    simp -dsimp [hkn]
    repeat' (first | omega | (exact sub0_snV _) | (exact sub0_dnV _) | (simp -dsimp [E35, ri, cellp, ints, hkn, hpl, ints]) | (refine Also.intro ?_ fun _ => ?_) | (refine Hold.intro fun _ => ?_) | (refine And.intro ?_ ?_))
theorem ok35 : FnOK Tryd.prog 35 (.pure dueS) := pure_fn (E := E35) rfl (.cons ok50 (.cons ok70 .nil)) (ok := []) (fn := Tryd.f35) (by kernel_rfl) (by kernel_rfl) (by kernel_rfl) (by kernel_rfl) rfl (fun _ _ => by simp) b35
noncomputable abbrev E36 : Env := { P := Tryd.prog, fn := tbl [(25, .pure checkFS), (60, .pure behindS), (63, .pure withinS)], own := [], key := 3600, nt := 84 }
theorem b36 : PureBody E36 [] Tryd.f36 dueS := by
  refine pb ?_
  rintro ⟨r, l, o⟩ hfn
  have hfn' : RL.Fine ⟨r, l⟩ := hfn
  by_cases hE : opE r l = 0
  case neg =>
    have hR : dueF r l o = [] := by simp [dueF, hE]
    have hR2 : dueE r l o = opE r l := by simp [dueE, hE]
    simp -dsimp [Tryd.f36, E36, Reg.row]
    repeat' (first | omega | (exact sub0_snV _) | (exact sub0_dnV _) | (simp -dsimp [E36, ri, cellp, ints, rlE_dec', hfn', hE, hR, hR2, ints]) | (refine Also.intro ?_ fun _ => ?_) | (refine Hold.intro fun _ => ?_) | (refine And.intro ?_ ?_))
  obtain ⟨hWf, hRel⟩ := opE_rel hE
  obtain ⟨v1, v2, v3, v4, v5, v6, v7, v8⟩ := valid_facts hWf.val
  cases hp : RS.ordA r o
  · have hR : dueF r l o = [] := by simp [dueF, hE, hp]
    have hR2 : dueE r l o = 1 := by simp [dueE, hE, hp]
    simp only [RS.ordA, wsub] at hp
    simp -dsimp [Tryd.f36, E36, Reg.row]
    repeat' (first | omega | (exact sub0_snV _) | (exact sub0_dnV _) | (simp -dsimp [E36, ri, cellp, ints, rlE_dec', hfn', hE, hp, hR, hR2, ints]) | (refine Also.intro ?_ fun _ => ?_) | (refine Hold.intro fun _ => ?_) | (refine And.intro ?_ ?_))
  obtain ⟨oi, rfl, hoi⟩ := withinB_nat (m := r.orders.length) (by omega) hp
  have hR : dueF r l oi = pickTo (dueIs (opH r l) oi) r.parts.length := by simp [dueF, hE, hp]
  have hR2 : dueE r l oi = 0 := by simp [dueE, hE, hp]
  have hI := (opE_inv hE).2.2.2
  rw [hR, hR2]
  clear hR hR2
  simp only [RS.ordA, wsub] at hp
  have hN2 := stRow (rT r l l.length)
  obtain ⟨od, hod, hod'⟩ := get_ex hoi
  generalize opH r l = s at *
  generalize hT : rT r l l.length = T at *
  have hol : oi < T.iss.length := by rw [hWf.iss]; exact hoi
  obtain ⟨b1, hb1, hb1'⟩ := get_ex hol
  have hdl : oi < T.done.length := by rw [hWf.done]; exact hoi
  obtain ⟨dr, hdr, hdr'⟩ := get_ex hdl
  have hdv := dnV_ne (l := T.done) (by omega)
  have hdc := hWf.doner dr (hdr' ▸ List.getElem_mem hdl)
  simp -dsimp [Tryd.f36, E36, Reg.row]
  repeat' (first | omega | (exact sub0_snV _) | (exact sub0_dnV _) | (simp -dsimp [E36, ri, cellp, ints, rlE_dec', hfn', hE, hp, hT, hN2]) | (refine Also.intro ?_ fun _ => ?_) | (refine Hold.intro fun _ => ?_) | (refine And.intro ?_ ?_))
  refine awp_loop_g [(11, 3682, 1, 3)] rfl (by simp) [32, 33, 34, 35, 36, 39, 40, 41, 42, 43, 44, 45, 46, 47, 48, 49, 50, 51, 52, 53, 54, 55, 56, 57, 58, 59, 60, 61, 62, 63, 64, 65, 66, 67, 68, 69, 70, 71, 72, 73, 74, 75, 76, 77, 78, 79, 80, 81, 82, 11, 37, 38, 12] (fun k : Fin (r.parts.length + 1) => [(12, (true, .int .i64 (k.1 : Nat))), (11, (true, .bsl 3682 0 (pickTo (dueIs s oi) k.1).length))])
    (fun k => hps [(3682, { base := 0, blks := [{ z := 1, els := (pickTo (dueIs s oi) k.1).map ri, ty := 3 }] }), (3610, { base := 0, blks := [{ z := 5, els := [[.sl 2 (T.used.map cycV), .sl 2 (T.whr.map cycV), .sl 1 (T.iss.map rb), snV T.since, dnV T.done]], ty := 103 }] }),
      (3603, { base := 0, blks := [{ z := 4, els := [[.sl 3 (r.kinds.map Kd.row), .sl 4 (r.parts.map Pt.row), .int .i64 r.machines, .sl 2 (r.orders.map Od.row)]], ty := 38 }] })] noH) (fun k => r.parts.length - k.1) ⟨0, by omega⟩ ?_ ?_ ?_
  · simp [okAll, okv, pickTo]
  · exact (by (try simp -dsimp only [hpush_noH, hpush_hps, hps_over]); refine hle_hps ?_; simp -dsimp [allK, pickTo]; repeat' (first | (refine And.intro ?_ ?_) | (refine sLe.same ?_ ?_ <;> (simp; done)) | (refine sLe.clear ?_ ?_ <;> (first | (simp; done) | (simp; omega))) | (refine sLe.drop 1 ?_ ?_ ?_ <;> (simp; done))))
  rintro ⟨k, hk⟩
  simp only
  by_cases hk1 : k < r.parts.length
  · have hki : (k : Int) < r.parts.length := by omega
    have hwk : IntKind.wrap .i64 ((k : Int) + 1) = (k + 1 : Nat) := wrap_id (by omega) (by omega)
    obtain ⟨p, hpk, hpk'⟩ := get_ex hk1
    have hkw : k < T.whr.length := by rw [hWf.whr]; exact hk1
    obtain ⟨w, hw, hw'⟩ := get_ex hkw
    have hkd0 : k < dr.length := by rw [hdc]; exact hk1
    obtain ⟨b2, hb2, hb2'⟩ := get_ex hkd0
    have hab : ((T.pt r k).a == -2 && (T.pt r k).b == -2) = (w.1 == -2) := by
      have e1 : (T.pt r k).a = w.1 := by simp [RS.pt, List.getD, hw]
      rw [← e1]
      refine band _ _ fun ha => ?_
      have ha' : (T.pt r k).a = -2 := by simpa using ha
      rcases hI.pa k _ (hRel.getp hk1) with h1 | h1 | h1
      · omega
      · simpa using h1.2
      · omega
    have hD : dueIs s oi k = (b1 && ((p.kind == od.kind) && (!b2 && !(w.1 == -2)))) := by
      have e4 : (T.pt r k).kind = p.kind := by simp [RS.pt, List.getD, hpk]
      have e5 : (T.done.getD oi []).getD k false = b2 := by simp [List.getD, hdr, hb2]
      have e6 : T.iss.getD oi false = b1 := by simp [List.getD, hb1]
      have e7 : r.orders.getD oi default = od := by simp [List.getD, hod]
      rw [dueIs, hRel.getD hk1, hRel.issq, hRel.rg, hab, pt_chk, e4, e5, e6, e7]
    have hP : pickTo (dueIs s oi) (k + 1) = if dueIs s oi k = true then pickTo (dueIs s oi) k ++ [(k : Int)] else pickTo (dueIs s oi) k := rfl
    have hPl := pickTo_len (dueIs s oi) k
    have hb8 : ((pickTo (dueIs s oi) k).length + 1) * 8 ≤ 140737488355328 := by omega
    rw [hD] at hP
    generalize pickTo (dueIs s oi) k = P at *
    cases b1
    · rw [Bool.false_and, if_neg (by simp)] at hP
      simp -dsimp [hki]
      repeat' (first | omega | (exact sub0_snV _) | (exact sub0_dnV _) | (simp -dsimp [E36, ri, cellp, ints, hki, hk1, hol, hb1, hb1', rb, hwk]) | (refine Also.intro ?_ fun _ => ?_) | (refine Hold.intro fun _ => ?_) | (refine And.intro ?_ ?_))
      refine ⟨⟨k + 1, by omega⟩, tle_chain rfl ?_, (by (try simp -dsimp only [hpush_noH, hpush_hps, hps_over]); refine hle_hps ?_; simp -dsimp [allK, hP]; repeat' (first | (refine And.intro ?_ ?_) | (refine sLe.same ?_ ?_ <;> (simp; done)) | (refine sLe.clear ?_ ?_ <;> (first | (simp; done) | (simp; omega))) | (refine sLe.drop 1 ?_ ?_ ?_ <;> (simp; done)))), by simp only; omega⟩
      simp [okAll, okv, hP]
    by_cases hkd : p.kind = od.kind
    case neg =>
      have hkd' : (p.kind == od.kind) = false := by simpa using hkd
      have hkd2 : (p.kind = od.kind) = False := eq_false hkd
      rw [hkd', Bool.false_and, Bool.and_false, if_neg (by simp)] at hP
      simp -dsimp [hki]
      repeat' (first | omega | (exact sub0_snV _) | (exact sub0_dnV _) | (simp -dsimp [E36, ri, cellp, ints, hki, hk1, hol, hb1, hb1', rb, hpk, hpk', hoi, hod, hod', Pt.row, Od.row, hkd', hkd2, hwk]) | (refine Also.intro ?_ fun _ => ?_) | (refine Hold.intro fun _ => ?_) | (refine And.intro ?_ ?_))
      refine ⟨⟨k + 1, by omega⟩, tle_chain rfl ?_, (by (try simp -dsimp only [hpush_noH, hpush_hps, hps_over]); refine hle_hps ?_; simp -dsimp [allK, hP]; repeat' (first | (refine And.intro ?_ ?_) | (refine sLe.same ?_ ?_ <;> (simp; done)) | (refine sLe.clear ?_ ?_ <;> (first | (simp; done) | (simp; omega))) | (refine sLe.drop 1 ?_ ?_ ?_ <;> (simp; done)))), by simp only; omega⟩
      simp [okAll, okv, hP]
    have hkd' : (p.kind == od.kind) = true := by simpa using hkd
    rw [hkd'] at hP
    cases b2
    case true =>
      rw [if_neg (by simp)] at hP
      simp -dsimp [hki]
      repeat' (first | omega | (exact sub0_snV _) | (exact sub0_dnV _) | (simp -dsimp [E36, ri, cellp, ints, hki, hk1, hol, hb1, hb1', rb, hpk, hpk', hoi, hod, hod', Pt.row, Od.row, hkd, hdv, hdl, hdr, hdr', bls, hkd0, hb2, hb2', hwk]) | (refine Also.intro ?_ fun _ => ?_) | (refine Hold.intro fun _ => ?_) | (refine And.intro ?_ ?_))
      refine ⟨⟨k + 1, by omega⟩, tle_chain rfl ?_, (by (try simp -dsimp only [hpush_noH, hpush_hps, hps_over]); refine hle_hps ?_; simp -dsimp [allK, hP]; repeat' (first | (refine And.intro ?_ ?_) | (refine sLe.same ?_ ?_ <;> (simp; done)) | (refine sLe.clear ?_ ?_ <;> (first | (simp; done) | (simp; omega))) | (refine sLe.drop 1 ?_ ?_ ?_ <;> (simp; done)))), by simp only; omega⟩
      simp [okAll, okv, hP]
    by_cases hsc : w.1 = -2
    · have hsc' : (w.1 == -2) = true := by simpa using hsc
      rw [hsc', if_neg (by simp)] at hP
      simp -dsimp [hki]
      repeat' (first | omega | (exact sub0_snV _) | (exact sub0_dnV _) | (simp -dsimp [E36, ri, cellp, ints, hki, hk1, hol, hb1, hb1', rb, hpk, hpk', hoi, hod, hod', Pt.row, Od.row, hkd, hdv, hdl, hdr, hdr', bls, hkd0, hb2, hb2', hkw, hw, hw', cycV, hsc, hwk]) | (refine Also.intro ?_ fun _ => ?_) | (refine Hold.intro fun _ => ?_) | (refine And.intro ?_ ?_))
      refine ⟨⟨k + 1, by omega⟩, tle_chain rfl ?_, (by (try simp -dsimp only [hpush_noH, hpush_hps, hps_over]); refine hle_hps ?_; simp -dsimp [allK, hP]; repeat' (first | (refine And.intro ?_ ?_) | (refine sLe.same ?_ ?_ <;> (simp; done)) | (refine sLe.clear ?_ ?_ <;> (first | (simp; done) | (simp; omega))) | (refine sLe.drop 1 ?_ ?_ ?_ <;> (simp; done)))), by simp only; omega⟩
      simp [okAll, okv, hP]
    · have hsc' : (w.1 == -2) = false := by simpa using hsc
      have hsc2 : (w.1 = -2) = False := eq_false hsc
      have hsc3 : (w.1 != -2) = true := by simp [bne, hsc']
      rw [hsc', if_pos (by simp)] at hP
      simp -dsimp [hki]
      repeat' (first | omega | (exact sub0_snV _) | (exact sub0_dnV _) | (simp -dsimp [E36, ri, cellp, ints, hki, hk1, hol, hb1, hb1', rb, hpk, hpk', hoi, hod, hod', Pt.row, Od.row, hkd, hdv, hdl, hdr, hdr', bls, hkd0, hb2, hb2', hkw, hw, hw', cycV, hsc', hsc2, hsc3, hb8, ri, hwk]) | (refine Also.intro ?_ fun _ => ?_) | (refine Hold.intro fun _ => ?_) | (refine And.intro ?_ ?_))
      refine ⟨⟨k + 1, by omega⟩, tle_chain rfl ?_, (by (try simp -dsimp only [hpush_noH, hpush_hps, hps_over]); refine hle_hps ?_; simp -dsimp [allK, hP, ri]; repeat' (first | (refine And.intro ?_ ?_) | (refine sLe.same ?_ ?_ <;> (simp; done)) | (refine sLe.clear ?_ ?_ <;> (first | (simp; done) | (simp; omega))) | (refine sLe.drop 1 ?_ ?_ ?_ <;> (simp; done)))), by simp only; omega⟩
      simp [okAll, okv, hP]
  · have hkn : ¬ (k : Int) < r.parts.length := by omega
    have hke : k = r.parts.length := by omega
    subst hke
    simp -dsimp [hkn]
    repeat' (first | omega | (exact sub0_snV _) | (exact sub0_dnV _) | (simp -dsimp [E36, ri, cellp, ints, hkn, ints]) | (refine Also.intro ?_ fun _ => ?_) | (refine Hold.intro fun _ => ?_) | (refine And.intro ?_ ?_))
theorem ok36 : FnOK Tryd.prog 36 (.pure dueS) := pure_fn (E := E36) rfl (.cons ok25 (.cons ok60 (.cons ok63 .nil))) (ok := []) (fn := Tryd.f36) (by kernel_rfl) (by kernel_rfl) (by kernel_rfl) (by kernel_rfl) rfl (fun _ _ => by simp) b36
end Go.Sx
end
section
/- Parts: the law about flights. No conditions. -/
set_option linter.unusedSimpArgs false
set_option linter.unusedSectionVars false
set_option maxRecDepth 100000
set_option maxHeartbeats 4000000
namespace Go.Sx
open Go.Proofs
attribute [local irreducible] HLe
attribute [local simp] hps_app

structure RLK where
  r : Reg
  l : List Wk
  m : Int
  c : Int
  o : Int
  deriving Inhabited
@[simp] def rkE (d : RLK) : List V := [.agg d.r.row, .sl 4 (d.l.map Wk.row), .agg [.int .i64 d.m, .int .i64 d.c, .int .i64 d.o]]
theorem rkE_inj (a b : RLK) (h : rkE a = rkE b) : a = b := by
  obtain ⟨r, l, m, c, o⟩ := a; obtain ⟨r', l', m', c', o'⟩ := b
  simp only [rkE, List.cons.injEq, V.agg.injEq, V.sl.injEq, V.int.injEq, true_and, and_true] at h
  rw [Reg.row_inj _ _ h.1, map_inj Wk.row_inj h.2.1, h.2.2.1, h.2.2.2.1, h.2.2.2.2]
noncomputable abbrev lawFlS : PSpec := mkP rkE (fun d => RL.Fine ⟨d.r, d.l⟩) fun _ => .bool true
theorem toInts_rows (l : List Int) : (V.sl 1 (l.map ri)).toInts = l := toInts_ints l
theorem lacksF_len (r : Reg) (l : List Wk) (m : Int) : (lacksF r l m).length ≤ 9223372036854775807 := by
  unfold lacksF
  split
  · rename_i h
    split
    · have := lacks_len (opE_ok h).small m; omega
    · simp
  · simp
theorem dueF_len (r : Reg) (l : List Wk) (o : Int) : (dueF r l o).length ≤ 9223372036854775807 := by
  unfold dueF
  split
  · rename_i h
    split
    · have := pickTo_len (dueIs (opH r l) o.toNat) r.parts.length
      have := (valid_facts (opE_inv h).1).2.1
      omega
    · simp
  · simp
noncomputable abbrev E8 : Env := { P := Tryd.prog, fn := tbl [(15, .pure worksS), (18, .pure samePS), (20, .pure longFS), (24, .pure longS), (32, .pure lacksFS), (33, .pure lacksFS), (34, .pure longFS), (35, .pure dueS), (36, .pure dueS), (37, .pure sameS)], own := [], key := 800, nt := 98 }
theorem b8 : PureBody E8 [] Tryd.f8 lawFlS := by
  refine pb ?_
  rintro ⟨r, l, m, c, o⟩ hfn
  have hfn : RL.Fine ⟨r, l⟩ := hfn
  have h1 : RLN.Fine ⟨r, l, m⟩ := hfn
  have h2 : RLN.Fine ⟨r, l, o⟩ := hfn
  have h3 : RLM.Fine ⟨r, l, m, c⟩ := hfn
  have hl : l.length ≤ 9223372036854775807 := hfn.2.2.2
  have e1 := lacksF_len r l m
  have e2 := dueF_len r l o
  cases h : longB l
  · simp -dsimp [Tryd.f8, E8, Reg.row]
    repeat' (first | omega | (simp -dsimp [E8, ri, cellp, ints, rnE_dec', rmE_dec', wkE_dec, hl, h1, h2, h3, h, prs, toPrs_rows, toInts_rows, e1, e2]) | (refine Also.intro ?_ fun _ => ?_) | (refine Hold.intro fun _ => ?_) | (refine And.intro ?_ ?_))
  · simp -dsimp [Tryd.f8, E8, Reg.row]
    repeat' (first | omega | (simp -dsimp [E8, ri, cellp, ints, wkE_dec, hl, h]) | (refine Also.intro ?_ fun _ => ?_) | (refine Hold.intro fun _ => ?_) | (refine And.intro ?_ ?_))
theorem ok8 : FnOK Tryd.prog 8 (.pure lawFlS) := pure_fn (E := E8) rfl (.cons ok15 (.cons ok18 (.cons ok20 (.cons ok24 (.cons ok32 (.cons ok33 (.cons ok34 (.cons ok35 (.cons ok36 (.cons ok37 .nil)))))))))) (ok := []) (fn := Tryd.f8) (by kernel_rfl) (by kernel_rfl) (by kernel_rfl) (by kernel_rfl) rfl (fun _ _ => by simp) b8
end Go.Sx
end
section
/- Parts: one more work. No conditions. -/
set_option linter.unusedSimpArgs false
set_option linter.unusedSectionVars false
namespace Go.Sx

theorem stT_app (r : Reg) (l x : List Wk) : ∀ k, k ≤ l.length → stT r (l ++ x) k = stT r l k
  | 0, _ => rfl
  | k + 1, hk => by
    have hg : (l ++ x).getD k default = l.getD k default := by simp [List.getD, List.getElem?_append_left (by omega : k < l.length)]
    simp only [stT, stT_app r l x k (by omega), hg]
theorem okAt_app (r : Reg) (l x : List Wk) {k : Nat} (hk : k < l.length) : okAt r (l ++ x) k = okAt r l k := by
  have hg : (l ++ x).getD k default = l.getD k default := by simp [List.getD, List.getElem?_append_left hk]
  simp only [okAt, stT_app r l x k (by omega), hg]
theorem opE_of {r : Reg} {l : List Wk} (hv : r.valid = true) (hl : l.length ≤ 200) (h : ∀ j, j < l.length → okAt r l j = true) : opE r l = 0 := by
  have := badAt_none h
  simp [opE, hv, hl, this]
theorem opE_bad {r : Reg} {l : List Wk} (hv : r.valid = true) (hl : l.length ≤ 200) {k : Nat} (hk : k < l.length) (h : okAt r l k = false) (hall : ∀ j, j < k → okAt r l j = true) : opE r l = 91 := by
  have := badAt_at hk h hall
  simp [opE, hv, hl, this] <;> omega
/-- One more work behind right ones. -/
theorem opE_snoc {r : Reg} {l : List Wk} (h : opE r l = 0) (hl : l.length < 200) (w : Wk) : opE r (l ++ [w]) = if (opH r l).doOk w = true then 0 else 91 := by
  obtain ⟨h1, h2, h3, h4⟩ := opE_inv h
  have hlen : (l ++ [w]).length = l.length + 1 := by simp
  have hg : (l ++ [w]).getD l.length default = w := by simp [List.getD]
  have hlast : okAt r (l ++ [w]) l.length = (opH r l).doOk w := by simp only [okAt, stT_app r l [w] l.length (Nat.le_refl _), hg, opH]
  have hpre : ∀ j, j < l.length → okAt r (l ++ [w]) j = true := fun j hj => by rw [okAt_app r l [w] hj]; exact h3 j hj
  cases hd : (opH r l).doOk w
  · exact opE_bad h1 (by omega) (k := l.length) (by omega) (by rw [hlast, hd]) hpre
  · refine opE_of h1 (by omega) fun j hj => ?_
    by_cases e : j = l.length
    · subst e; rw [hlast, hd]
    · exact hpre j (by omega)
theorem opH_snoc (r : Reg) (l : List Wk) (w : Wk) : opH r (l ++ [w]) = (opH r l).step w := by
  have hg : (l ++ [w]).getD l.length default = w := by simp [List.getD]
  have hlen : (l ++ [w]).length = l.length + 1 := by simp
  simp only [opH, hlen, stT, hg, stT_app r l [w] l.length (Nat.le_refl _)]
/-- Each beginning of right works is right. -/
theorem opE_take {r : Reg} {l : List Wk} (h : opE r l = 0) (k : Nat) : opE r (l.take k) = 0 := by
  obtain ⟨h1, h2, h3, h4⟩ := opE_inv h
  refine opE_of h1 (by simp; omega) fun j hj => ?_
  simp only [List.length_take] at hj
  have := h3 j (by omega)
  rw [← List.take_append_drop k l, okAt_app r (l.take k) (l.drop k) (by simp; omega)] at this
  exact this
theorem fly_ok (s : HG) (m n c : Int) : s.doOk ⟨1, m, n, c⟩ = s.flyOk m n c := by simp [HG.doOk]
section
variable {r : Reg} {l : List Wk} {m c : Int}
theorem snoc_none (h : opE r l = 0) (hl : l.length < 200) (hn : (opH r l).i.longest m c < 0) : opE r (l ++ [⟨1, m, 0, c⟩]) = 91 := by
  rw [opE_snoc h hl, fly_ok]
  have : (opH r l).flyOk m 0 c = false := by
    have : decide ((0 : Int) ≤ (opH r l).i.longest m c) = false := decide_eq_false (by omega)
    simp [HG.flyOk, this]
  rw [this]; rfl
theorem snoc_long (h : opE r l = 0) (hl : l.length < 200) (hm : (opH r l).i.machine m = true) (hc : withinB c 0 100 = true) (hn : 0 ≤ (opH r l).i.longest m c) : opE r (l ++ [⟨1, m, (opH r l).i.longest m c, c⟩]) = 0 := by
  rw [opE_snoc h hl, fly_ok]
  have h100 := longest_le100 (opH r l).i m c
  have hw : withinB ((opH r l).i.longest m c) 0 100 = true := by simp [withinB]; omega
  have : (opH r l).flyOk m ((opH r l).i.longest m c) c = true := by simp [HG.flyOk, hm, hc, hw]
  rw [this]; rfl
theorem snoc_more (h : opE r l = 0) (hl : l.length < 200) : opE r (l ++ [⟨1, m, (opH r l).i.longest m c + 1, c⟩]) = 91 := by
  rw [opE_snoc h hl, fly_ok]
  have : (opH r l).flyOk m ((opH r l).i.longest m c + 1) c = false := by
    have : decide ((opH r l).i.longest m c + 1 ≤ (opH r l).i.longest m c) = false := decide_eq_false (by omega)
    simp [HG.flyOk, this]
  rw [this]; rfl
end
end Go.Sx
end
section
/- Parts: the law about the longest flight. No conditions. -/
set_option linter.unusedSimpArgs false
set_option linter.unusedSectionVars false
set_option maxRecDepth 100000
set_option maxHeartbeats 4000000
namespace Go.Sx
open Go.Proofs
attribute [local irreducible] HLe
attribute [local simp] hps_app

theorem rlE_snoc (r : Reg) (l : List Wk) (k a b c : Int) : decC rlE [.agg [.sl 3 (r.kinds.map Kd.row), .sl 4 (r.parts.map Pt.row), .int .i64 r.machines, .sl 2 (r.orders.map Od.row)], .sl 4 (l.map Wk.row ++ [[.int .i64 k, .int .i64 a, .int .i64 b, .int .i64 c]])] = ⟨r, l ++ [⟨k, a, b, c⟩]⟩ := by
  have := rlE_dec' r (l ++ [⟨k, a, b, c⟩])
  simpa [Wk.row] using this
noncomputable abbrev lawLoS : PSpec := mkP rkE (fun d => RL.Fine ⟨d.r, d.l⟩) fun _ => .bool true
noncomputable abbrev E4 : Env := { P := Tryd.prog, fn := tbl [(15, .pure worksS), (19, .pure rightS), (20, .pure longFS), (21, .pure checkFS)], own := [], key := 400, nt := 93, frz := [(8, [3, 5]), (13, [3, 5])] }
theorem b4 : PureBody E4 [(8, ([1000, 1004, 1007], [[0, 1, 2, 3, 4, 5, 6, 7, 8, 9, 10, 11, 12, 13, 14, 15, 16]])), (13, ([1000, 1004, 1008], [[0, 1, 2, 3, 4, 5, 6, 7, 8, 9, 10, 11, 12, 13, 14, 15, 16]]))] Tryd.f4 lawLoS := by
  refine pb ?_
  rintro ⟨r, l, m, c, o⟩ hfn
  have hfn : RL.Fine ⟨r, l⟩ := hfn
  have h3 : RLM.Fine ⟨r, l, m, c⟩ := hfn
  cases hr : rightB r l
  · simp -dsimp [Tryd.f4, E4, Reg.row]
    repeat' (first | omega | (simp -dsimp [E4, ri, cellp, ints, rlE_dec', hfn, hr]) | (refine Also.intro ?_ fun _ => ?_) | (refine Hold.intro fun _ => ?_) | (refine And.intro ?_ ?_))
  by_cases h40 : l.length < 40
  case neg =>
    have h40' : (40 : Int) ≤ l.length := by omega
    have h40n : 40 ≤ l.length := by omega
    simp -dsimp [Tryd.f4, E4, Reg.row]
    repeat' (first | omega | (simp -dsimp [E4, ri, cellp, ints, rlE_dec', hfn, hr, h40', h40n]) | (refine Also.intro ?_ fun _ => ?_) | (refine Hold.intro fun _ => ?_) | (refine And.intro ?_ ?_))
  have h40' : ¬ (40 : Int) ≤ l.length := by omega
  have h40n : ¬ 40 ≤ l.length := by omega
  have hE : opE r l = 0 := by simp [rightB] at hr; exact hr.2
  have hl8 : (l.length + 1) * 32 ≤ 140737488355328 := by omega
  have hl9 : l.length * 32 ≤ 140737488355328 := by omega
  have hfs : ∀ w, RL.Fine ⟨r, l ++ [w]⟩ := fun w => ⟨hfn.1, hfn.2.1, hfn.2.2.1, by simp; omega⟩
  cases hmc : ((opH r l).i.machine m && withinB c 0 100)
  · have hR : longE r l m c = 1 := by simp only [longE, hE, if_true, hmc]; rfl
    simp -dsimp [Tryd.f4, E4, Reg.row]
    repeat' (first | omega | (simp -dsimp [E4, ri, cellp, ints, rlE_dec', rmE_dec', hfn, h3, hr, h40', h40n, hR]) | (refine Also.intro ?_ fun _ => ?_) | (refine Hold.intro fun _ => ?_) | (refine And.intro ?_ ?_))
  have hmc2 := hmc
  rw [Bool.and_eq_true] at hmc2
  by_cases hn : (opH r l).i.longest m c < 0
  · have hR : longE r l m c = 3 := by simp only [longE, hE, if_true, hmc, hn]
    have hR2 : longF r l m c = 0 := by simp [longF, hR]
    have hs := snoc_none (m := m) (c := c) hE (by omega) hn
    simp -dsimp [Tryd.f4, E4, Reg.row]
    repeat' (first | omega | (simp -dsimp [E4, ri, cellp, ints, rlE_dec', rmE_dec', rlE_snoc, Wk.row, hfn, h3, hfs, hr, h40', h40n, hR, hR2, hl8, hl9, hs]) | (refine Also.intro ?_ fun _ => ?_) | (refine Hold.intro fun _ => ?_) | (refine And.intro ?_ ?_))
  · have hR : longE r l m c = 0 := by simp only [longE, hE, if_true, hmc, hn]; rfl
    have hR2 : longF r l m c = (opH r l).i.longest m c := by simp [longF, hR]
    have hs := snoc_long hE (by omega) hmc2.1 hmc2.2 (by omega : 0 ≤ (opH r l).i.longest m c)
    have hs2 := snoc_more (m := m) (c := c) hE (by omega)
    have h100 := longest_le100 (opH r l).i m c
    generalize (opH r l).i.longest m c = n at *
    have hn1 : ¬ n < 0 := hn
    have hn2 : ¬ 100 < n := by omega
    have hnw : IntKind.wrap .i64 (n + 1) = n + 1 := wrap_id (by omega) (by omega)
    simp -dsimp [Tryd.f4, E4, Reg.row]
    repeat' (first | omega | (simp -dsimp [E4, ri, cellp, ints, rlE_dec', rmE_dec', rlE_snoc, Wk.row, hfn, h3, hfs, hr, h40', h40n, hR, hR2, hl8, hl9, hs, hs2, hn1, hn2, hnw]) | (refine Also.intro ?_ fun _ => ?_) | (refine Hold.intro fun _ => ?_) | (refine And.intro ?_ ?_))
theorem ok4 : FnOK Tryd.prog 4 (.pure lawLoS) := pure_fn (E := E4) rfl (.cons ok15 (.cons ok19 (.cons ok20 (.cons ok21 .nil)))) (ok := [(8, ([1000, 1004, 1007], [[0, 1, 2, 3, 4, 5, 6, 7, 8, 9, 10, 11, 12, 13, 14, 15, 16]])), (13, ([1000, 1004, 1008], [[0, 1, 2, 3, 4, 5, 6, 7, 8, 9, 10, 11, 12, 13, 14, 15, 16]]))]) (fn := Tryd.f4) (by kernel_rfl) (by kernel_rfl) (by kernel_rfl) (by kernel_rfl) rfl (fun _ _ => by simp) b4
end Go.Sx
end
section
/- Parts: taking and fitting change neither what is used nor what is left. No conditions. -/
set_option linter.unusedSimpArgs false
set_option linter.unusedSectionVars false
namespace Go.Sx

def PS.at2 (p : PS) (a b : Int) : PS := { p with a := a, b := b }
/-- All but the places of the parts is as it was. -/
structure Same (s s' : HG) : Prop where
  r : s'.r = s.r
  iss : s'.iss = s.iss
  psl : s'.ps.length = s.ps.length
  ps : ∀ k, k < s.ps.length → ∃ a b, s'.ps.getD k default = (s.ps.getD k default).at2 a b
theorem same_set {s s' : HG} {n : Nat} {a b : Int} (hr : s'.r = s.r) (hi : s'.iss = s.iss) (hp : s'.ps = s.ps.set n { s.ps.getD n default with a := a, b := b }) : Same s s' := by
  refine ⟨hr, hi, by rw [hp]; simp, fun k hk => ?_⟩
  rw [hp]
  by_cases e : n = k
  · subst e; rw [getD_set_eq hk]; exact ⟨a, b, rfl⟩
  · rw [getD_set_ne e]; exact ⟨(s.ps.getD k default).a, (s.ps.getD k default).b, rfl⟩
theorem same_step {s : HG} {w : Wk} (hw : s.doOk w = true) (hk : w.kind = 3 ∨ w.kind = 2) : Same s (s.step w) := by
  have hst : s.step w = { s.doDo w with wk := wadd s.wk 1 } := by simp only [HG.step, HG.after, hw, if_true]
  rw [hst]
  rcases hk with hk | hk
  · simp only [HG.doDo, hk, Int.reduceEq, if_false, if_true]
    exact same_set (n := w.a.toNat) (a := -1) (b := -1) rfl rfl rfl
  · simp only [HG.doDo, hk, Int.reduceEq, if_false, if_true]
    unfold HG.fitDo
    split <;> exact same_set (n := w.a.toNat) (a := w.b) (b := w.c) rfl rfl rfl
theorem Same.used {s s' : HG} (h : Same s s') : s'.ps.map (eaP true) = s.ps.map (eaP true) := by
  refine List.ext_getElem (by simp [h.psl]) fun k h1 h2 => ?_
  have hk : k < s.ps.length := by simpa using h2
  have hk' : k < s'.ps.length := by simpa using h1
  obtain ⟨a, b, e⟩ := h.ps k hk
  have e1 : s'.ps.getD k default = s'.ps[k] := by simp [List.getD, hk']
  have e2 : s.ps.getD k default = s.ps[k] := by simp [List.getD, hk]
  rw [List.getElem_map, List.getElem_map, ← e1, ← e2, e]
  rfl
theorem leftH_at2 (x : HI) (p : PS) (a b : Int) : ∀ i, x.leftH (p.at2 a b) i = x.leftH p i
  | 0 => rfl
  | i + 1 => by rw [HI.leftH, HI.leftH, leftH_at2 x p a b i]; rfl
theorem Same.left {s s' : HG} (h : Same s s') {k : Nat} (hk : k < s.ps.length) : s'.i.leftT (s'.ps.getD k default) = s.i.leftT (s.ps.getD k default) ∧ s'.i.leftC (s'.ps.getD k default) = s.i.leftC (s.ps.getD k default) := by
  obtain ⟨a, b, e⟩ := h.ps k hk
  have c1 : s'.i.r = s.i.r := h.r
  have c3 : s'.i.iss = s.i.iss := h.iss
  rw [leftT_core c1 c3, leftC_core c1, e]
  exact ⟨leftH_at2 _ _ _ _ _, rfl⟩
theorem swap_used {r : Reg} {l : List Wk} {w : Wk} (h : opE r l = 0) (h2 : opE r (l ++ [w]) = 0) (hl : l.length < 200) (hk : w.kind = 3 ∨ w.kind = 2) : eaR r (l ++ [w]) true = eaR r l true := by
  have hd : (opH r l).doOk w = true := by
    rw [opE_snoc h hl] at h2
    split at h2
    · assumption
    · omega
  rw [eaR, if_pos h2, eaR, if_pos h, opH_snoc]
  exact (same_step hd hk).used
theorem swap_left {r : Reg} {l : List Wk} {w : Wk} (h : opE r l = 0) (h2 : opE r (l ++ [w]) = 0) (hl : l.length < 200) (hk : w.kind = 3 ∨ w.kind = 2) {p : Nat} (hp : p < r.parts.length) : leftF r (l ++ [w]) p = leftF r l p ∧ (leftF r l p).e = 0 := by
  have hd : (opH r l).doOk w = true := by
    rw [opE_snoc h hl] at h2
    split at h2
    · assumption
    · omega
  have hS := same_step hd hk
  obtain ⟨hWf, hRel⟩ := opE_rel h
  have hpl : p < (opH r l).ps.length := by rw [hRel.psl]; exact hp
  have hpart : (opH r l).i.part p = true := by
    have := (valid_facts hWf.val).2.1
    rw [hRel.partq]
    have hw : wsub (r.parts.length : Int) 1 = r.parts.length - 1 := wrap_id (by omega) (by omega)
    simp only [RS.partA, hw, withinB, decide_eq_true_eq]; omega
  have hpart2 : (opH r (l ++ [w])).i.part p = true := by
    rw [opH_snoc]
    show withinB p 0 (wsub ((opH r l).step w).ps.length 1) = true
    rw [hS.psl]; exact hpart
  obtain ⟨h3, h4⟩ := hS.left hpl
  have e1 : leftF r l p = ⟨max0 ((opH r l).i.leftT ((opH r l).ps.getD p default)), max0 ((opH r l).i.leftC ((opH r l).ps.getD p default)), 0⟩ := by
    rw [leftF, if_pos h, if_pos hpart, Int.toNat_natCast]
  have e2 : leftF r (l ++ [w]) p = ⟨max0 ((opH r (l ++ [w])).i.leftT ((opH r (l ++ [w])).ps.getD p default)), max0 ((opH r (l ++ [w])).i.leftC ((opH r (l ++ [w])).ps.getD p default)), 0⟩ := by
    rw [leftF, if_pos h2, if_pos hpart2, Int.toNat_natCast]
  rw [e1, e2, opH_snoc, h3, h4]
  exact ⟨rfl, rfl⟩
end Go.Sx
end
section
/- Parts: the law about swaps. No conditions. -/
set_option linter.unusedSimpArgs false
set_option linter.unusedSectionVars false
set_option maxRecDepth 100000
set_option maxHeartbeats 4000000
namespace Go.Sx
open Go.Proofs
attribute [local irreducible] HLe
attribute [local simp] hps_app

structure RLW where
  r : Reg
  l : List Wk
  w : Wk
  deriving Inhabited
@[simp] def rlwE (d : RLW) : List V := [.agg d.r.row, .sl 4 (d.l.map Wk.row), .agg d.w.row]
theorem rlwE_inj (a b : RLW) (h : rlwE a = rlwE b) : a = b := by
  obtain ⟨r, l, w⟩ := a; obtain ⟨r', l', w'⟩ := b
  simp only [rlwE, List.cons.injEq, V.agg.injEq, V.sl.injEq, true_and, and_true] at h
  rw [Reg.row_inj _ _ h.1, map_inj Wk.row_inj h.2.1, Wk.row_inj _ _ h.2.2]
theorem rlE_take (r : Reg) (l : List Wk) (k : Nat) : decC rlE [.agg [.sl 3 (r.kinds.map Kd.row), .sl 4 (r.parts.map Pt.row), .int .i64 r.machines, .sl 2 (r.orders.map Od.row)], .sl 4 ((l.map Wk.row).take k)] = ⟨r, l.take k⟩ := by
  have := rlE_dec' r (l.take k)
  rwa [List.map_take] at this
theorem rnE_snoc (r : Reg) (l : List Wk) (k a b c n : Int) : decC rnE [.agg [.sl 3 (r.kinds.map Kd.row), .sl 4 (r.parts.map Pt.row), .int .i64 r.machines, .sl 2 (r.orders.map Od.row)], .sl 4 (l.map Wk.row ++ [[.int .i64 k, .int .i64 a, .int .i64 b, .int .i64 c]]), .int .i64 n] = ⟨r, l ++ [⟨k, a, b, c⟩], n⟩ := by
  have := rnE_dec' r (l ++ [⟨k, a, b, c⟩]) n
  simpa [Wk.row] using this
noncomputable abbrev lawSwS : PSpec := mkP rlwE (fun d => RL.Fine ⟨d.r, d.l⟩) fun _ => .bool true
noncomputable abbrev E10 : Env := { P := Tryd.prog, fn := tbl [(15, .pure worksS), (18, .pure samePS), (19, .pure rightS), (21, .pure checkFS), (22, .pure usedS), (28, .pure leftFS)], own := [], key := 1000, nt := 127, frz := [(13, [10])] }
theorem b10 : PureBody E10 [(9, ([2002], [[0, 1, 2, 3, 4, 5]]))] Tryd.f10 lawSwS := by
  refine pb ?_
  rintro ⟨r, l, ⟨wk, wa, wb, wc⟩⟩ hfn
  have hfn : RL.Fine ⟨r, l⟩ := hfn
  have hrow : ∀ k a b c, Wk.row ⟨k, a, b, c⟩ = [.int .i64 k, .int .i64 a, .int .i64 b, .int .i64 c] := fun _ _ _ _ => rfl
  cases hr : rightB r l
  · simp -dsimp [Tryd.f10, E10, Reg.row, hrow]
    repeat' (first | omega | (simp -dsimp [E10, ri, cellp, ints, rlE_dec', hfn, hr]) | (refine Also.intro ?_ fun _ => ?_) | (refine Hold.intro fun _ => ?_) | (refine And.intro ?_ ?_))
  have hE : opE r l = 0 := by simp [rightB] at hr; exact hr.2
  have hll : l.length ≤ 200 := (opE_inv hE).2.1
  have hl8 : (l.length + 1) * 32 ≤ 140737488355328 := by omega
  have hl9 : l.length * 32 ≤ 140737488355328 := by omega
  have hfs : ∀ w, RL.Fine ⟨r, l ++ [w]⟩ := fun w => ⟨hfn.1, hfn.2.1, hfn.2.2.1, by simp; omega⟩
  have hft : ∀ k, RL.Fine ⟨r, l.take k⟩ := fun k => ⟨hfn.1, hfn.2.1, hfn.2.2.1, by simp; omega⟩
  have htk := opE_take hE
  simp -dsimp [Tryd.f10, E10, Reg.row, hrow]
  repeat' (first | omega | (simp -dsimp [E10, ri, cellp, ints, rlE_dec', hfn, hr]) | (refine Also.intro ?_ fun _ => ?_) | (refine Hold.intro fun _ => ?_) | (refine And.intro ?_ ?_))
  refine awp_loop [27, 28, 29, 30, 34, 35, 36, 37, 38, 33, 39, 40, 8, 9, 41, 42, 6, 31, 32, 7] (fun k : Fin (l.length + 1) => [(7, (true, .int .i64 (k.1 : Nat)))])
    (fun _ => hps [(1005, { base := 0, blks := [{ z := 4, els := [[.int .i64 wk, .int .i64 wa, .int .i64 wb, .int .i64 wc]], ty := 47 }] }), (1003, { base := 0, blks := [{ z := 4, els := [[.sl 3 (r.kinds.map Kd.row), .sl 4 (r.parts.map Pt.row), .int .i64 r.machines, .sl 2 (r.orders.map Od.row)]], ty := 38 }] })] noH) (fun k => l.length - k.1) ⟨0, by omega⟩ ?_ ?_ ?_
  · simp [okAll, okv]
  · exact (by (try simp -dsimp only [hpush_noH, hpush_hps, hps_over]); refine hle_hps ?_; simp -dsimp [allK, ]; repeat' (first | (refine And.intro ?_ ?_) | (refine sLe.same ?_ ?_ <;> (simp; done)) | (refine sLe.clear ?_ ?_ <;> (first | (simp; done) | (simp; omega))) | (refine sLe.drop 1 ?_ ?_ ?_ <;> (simp; done))))
  rintro ⟨k, hk⟩
  simp only
  by_cases hk1 : k < l.length
  · have hki : (k : Int) < l.length := by omega
    have hki2 : (k : Int) ≤ l.length := by omega
    have hwk : IntKind.wrap .i64 ((k : Int) + 1) = (k + 1 : Nat) := wrap_id (by omega) (by omega)
    have htk' := htk k
    simp -dsimp [hki]
    repeat' (first | omega | (simp -dsimp [E10, ri, cellp, ints, hki, hki2, hk, hk1, rlE_take, hft, htk', hwk]) | (refine Also.intro ?_ fun _ => ?_) | (refine Hold.intro fun _ => ?_) | (refine And.intro ?_ ?_))
    refine ⟨⟨k + 1, by omega⟩, tle_chain rfl ?_, (by (try simp -dsimp only [hpush_noH, hpush_hps, hps_over]); refine hle_hps ?_; simp -dsimp [allK, ]; repeat' (first | (refine And.intro ?_ ?_) | (refine sLe.same ?_ ?_ <;> (simp; done)) | (refine sLe.clear ?_ ?_ <;> (first | (simp; done) | (simp; omega))) | (refine sLe.drop 1 ?_ ?_ ?_ <;> (simp; done)))), by simp only; omega⟩
    simp [okAll, okv]
  have hkn : ¬ (k : Int) < l.length := by omega
  clear hk1 hk
  cases hr2 : rightB r (l ++ [⟨wk, wa, wb, wc⟩])
  · simp -dsimp [hkn]
    repeat' (first | omega | (simp -dsimp [E10, ri, cellp, ints, FoOk, NwOk, hkn, hl8, hl9, rlE_snoc, Wk.row, hfs, hr2]) | (refine Also.intro ?_ fun _ => ?_) | (refine Hold.intro fun _ => ?_) | (refine And.intro ?_ ?_))
  by_cases hkd : wk = 3 ∨ wk = 2
  case neg =>
    have hk3 : ¬ wk = 3 := fun h => hkd (.inl h)
    have hk2 : ¬ wk = 2 := fun h => hkd (.inr h)
    have hk3' : (wk != 3) = true := by simpa [bne] using hk3
    have hk2' : (wk != 2) = true := by simpa [bne] using hk2
    simp -dsimp [hkn]
    repeat' (first | omega | (simp -dsimp [E10, ri, cellp, ints, FoOk, NwOk, hkn, hl8, hl9, rlE_snoc, Wk.row, hfs, hr2, hk3, hk2, hk3', hk2']) | (refine Also.intro ?_ fun _ => ?_) | (refine Hold.intro fun _ => ?_) | (refine And.intro ?_ ?_))
  have hE2 : opE r (l ++ [⟨wk, wa, wb, wc⟩]) = 0 := by simp [rightB] at hr2; exact hr2.2
  have hll2 : l.length < 200 := by have := (opE_inv hE2).2.1; simp at this; omega
  have hU := swap_used hE hE2 hll2 hkd
  have hL := fun (p : Nat) (hp : p < r.parts.length) => swap_left hE hE2 hll2 hkd hp
  have hUl := eaR_len (r := r) (l := l) true
  have hv2 := (valid_facts (opE_inv hE).1).2.1
  have hcond : (wk != 3 && wk != 2) = false := by rcases hkd with h | h <;> simp [h]
  have fin : ∀ (w3 : wk = 3 ∨ wk = 2), True := fun _ => trivial
  rcases hkd with hw3 | hw3
  all_goals subst hw3
  · simp -dsimp [hkn]
    repeat' (first | omega | (simp -dsimp [E10, ri, cellp, ints, FoOk, NwOk, hkn, hl8, hl9, rlE_snoc, rlE_dec', Reg.row, Wk.row, hfn, hfs, hr2, hE, hE2, hU, prs, toPrs_rows, hUl]) | (refine Also.intro ?_ fun _ => ?_) | (refine Hold.intro fun _ => ?_) | (refine And.intro ?_ ?_))
    refine awp_loop [87, 88, 89, 90, 91, 95, 96, 97, 98, 94, 99, 100, 101, 16, 17, 18, 103, 104, 105, 106, 102, 107, 108, 109, 19, 20, 21, 110, 111, 112, 113, 114, 115, 116, 117, 118, 119, 120, 121, 122, 123, 124, 125, 6, 92, 93, 15] (fun k : Fin (r.parts.length + 1) => [(15, (true, .int .i64 (k.1 : Nat)))])
      (fun _ => hps [(1044, { base := 0, blks := [{ z := 4, els := l.map Wk.row ++ [[.int .i64 3, .int .i64 wa, .int .i64 wb, .int .i64 wc]], ty := 47, fz := true }] }), (1005, { base := 0, blks := [{ z := 4, els := [[.int .i64 3, .int .i64 wa, .int .i64 wb, .int .i64 wc]], ty := 47 }] }), (1003, { base := 0, blks := [{ z := 4, els := [[.sl 3 (r.kinds.map Kd.row), .sl 4 (r.parts.map Pt.row), .int .i64 r.machines, .sl 2 (r.orders.map Od.row)]], ty := 38 }] })] noH) (fun k => r.parts.length - k.1) ⟨0, by omega⟩ ?_ ?_ ?_
    · simp [okAll, okv]
    · exact (by (try simp -dsimp only [hpush_noH, hpush_hps, hps_over]); refine hle_hps ?_; simp -dsimp [allK, ]; repeat' (first | (refine And.intro ?_ ?_) | (refine sLe.same ?_ ?_ <;> (simp; done)) | (refine sLe.clear ?_ ?_ <;> (first | (simp; done) | (simp; omega))) | (refine sLe.drop 1 ?_ ?_ ?_ <;> (simp; done))))
    rintro ⟨q, hq⟩
    simp only
    by_cases hq1 : q < r.parts.length
    · have hqi : (q : Int) < r.parts.length := by omega
      have hwq : IntKind.wrap .i64 ((q : Int) + 1) = (q + 1 : Nat) := wrap_id (by omega) (by omega)
      obtain ⟨hL1, hL2⟩ := hL q hq1
      have hf1 : RLN.Fine ⟨r, l, (q : Int)⟩ := hfn
      have hf2 : RLN.Fine ⟨r, l ++ [⟨3, wa, wb, wc⟩], (q : Int)⟩ := hfs _
      simp -dsimp [hqi]
      repeat' (first | omega | (simp -dsimp [E10, ri, cellp, ints, hqi, rnE_dec', rnE_snoc, Reg.row, Wk.row, hf1, hf2, hL1, hL2, hwq]) | (refine Also.intro ?_ fun _ => ?_) | (refine Hold.intro fun _ => ?_) | (refine And.intro ?_ ?_))
      refine ⟨⟨q + 1, by omega⟩, tle_chain rfl ?_, (by (try simp -dsimp only [hpush_noH, hpush_hps, hps_over]); refine hle_hps ?_; simp -dsimp [allK, ]; repeat' (first | (refine And.intro ?_ ?_) | (refine sLe.same ?_ ?_ <;> (simp; done)) | (refine sLe.clear ?_ ?_ <;> (first | (simp; done) | (simp; omega))) | (refine sLe.drop 1 ?_ ?_ ?_ <;> (simp; done)))), by simp only; omega⟩
      simp [okAll, okv]
    · have hqn : ¬ (q : Int) < r.parts.length := by omega
      simp -dsimp [hqn]
      repeat' (first | omega | (simp -dsimp [E10, ri, cellp, ints, hqn]) | (refine Also.intro ?_ fun _ => ?_) | (refine Hold.intro fun _ => ?_) | (refine And.intro ?_ ?_))
  · simp -dsimp [hkn]
    repeat' (first | omega | (simp -dsimp [E10, ri, cellp, ints, FoOk, NwOk, hkn, hl8, hl9, rlE_snoc, rlE_dec', Reg.row, Wk.row, hfn, hfs, hr2, hE, hE2, hU, prs, toPrs_rows, hUl]) | (refine Also.intro ?_ fun _ => ?_) | (refine Hold.intro fun _ => ?_) | (refine And.intro ?_ ?_))
    refine awp_loop [87, 88, 89, 90, 91, 95, 96, 97, 98, 94, 99, 100, 101, 16, 17, 18, 103, 104, 105, 106, 102, 107, 108, 109, 19, 20, 21, 110, 111, 112, 113, 114, 115, 116, 117, 118, 119, 120, 121, 122, 123, 124, 125, 6, 92, 93, 15] (fun k : Fin (r.parts.length + 1) => [(15, (true, .int .i64 (k.1 : Nat)))])
      (fun _ => hps [(1044, { base := 0, blks := [{ z := 4, els := l.map Wk.row ++ [[.int .i64 2, .int .i64 wa, .int .i64 wb, .int .i64 wc]], ty := 47, fz := true }] }), (1005, { base := 0, blks := [{ z := 4, els := [[.int .i64 2, .int .i64 wa, .int .i64 wb, .int .i64 wc]], ty := 47 }] }), (1003, { base := 0, blks := [{ z := 4, els := [[.sl 3 (r.kinds.map Kd.row), .sl 4 (r.parts.map Pt.row), .int .i64 r.machines, .sl 2 (r.orders.map Od.row)]], ty := 38 }] })] noH) (fun k => r.parts.length - k.1) ⟨0, by omega⟩ ?_ ?_ ?_
    · simp [okAll, okv]
    · exact (by (try simp -dsimp only [hpush_noH, hpush_hps, hps_over]); refine hle_hps ?_; simp -dsimp [allK, ]; repeat' (first | (refine And.intro ?_ ?_) | (refine sLe.same ?_ ?_ <;> (simp; done)) | (refine sLe.clear ?_ ?_ <;> (first | (simp; done) | (simp; omega))) | (refine sLe.drop 1 ?_ ?_ ?_ <;> (simp; done))))
    rintro ⟨q, hq⟩
    simp only
    by_cases hq1 : q < r.parts.length
    · have hqi : (q : Int) < r.parts.length := by omega
      have hwq : IntKind.wrap .i64 ((q : Int) + 1) = (q + 1 : Nat) := wrap_id (by omega) (by omega)
      obtain ⟨hL1, hL2⟩ := hL q hq1
      have hf1 : RLN.Fine ⟨r, l, (q : Int)⟩ := hfn
      have hf2 : RLN.Fine ⟨r, l ++ [⟨2, wa, wb, wc⟩], (q : Int)⟩ := hfs _
      simp -dsimp [hqi]
      repeat' (first | omega | (simp -dsimp [E10, ri, cellp, ints, hqi, rnE_dec', rnE_snoc, Reg.row, Wk.row, hf1, hf2, hL1, hL2, hwq]) | (refine Also.intro ?_ fun _ => ?_) | (refine Hold.intro fun _ => ?_) | (refine And.intro ?_ ?_))
      refine ⟨⟨q + 1, by omega⟩, tle_chain rfl ?_, (by (try simp -dsimp only [hpush_noH, hpush_hps, hps_over]); refine hle_hps ?_; simp -dsimp [allK, ]; repeat' (first | (refine And.intro ?_ ?_) | (refine sLe.same ?_ ?_ <;> (simp; done)) | (refine sLe.clear ?_ ?_ <;> (first | (simp; done) | (simp; omega))) | (refine sLe.drop 1 ?_ ?_ ?_ <;> (simp; done)))), by simp only; omega⟩
      simp [okAll, okv]
    · have hqn : ¬ (q : Int) < r.parts.length := by omega
      simp -dsimp [hqn]
      repeat' (first | omega | (simp -dsimp [E10, ri, cellp, ints, hqn]) | (refine Also.intro ?_ fun _ => ?_) | (refine Hold.intro fun _ => ?_) | (refine And.intro ?_ ?_))
theorem ok10 : FnOK Tryd.prog 10 (.pure lawSwS) := pure_fn (E := E10) rfl (.cons ok15 (.cons ok18 (.cons ok19 (.cons ok21 (.cons ok22 (.cons ok28 .nil)))))) (ok := [(9, ([2002], [[0, 1, 2, 3, 4, 5]]))]) (fn := Tryd.f10) (by kernel_rfl) (by kernel_rfl) (by kernel_rfl) (by kernel_rfl) rfl (fun _ _ => by simp) b10
end Go.Sx
end
section
/- Parts: no part is beyond its life. No conditions. -/
set_option linter.unusedSimpArgs false
set_option linter.unusedSectionVars false
namespace Go.Sx

def imax (a b : Int) : Int := if a < b then b else a
/-- What holds of a part behind right works. -/
structure LivP (r : Reg) (x : Pt) (p : PS) : Prop where
  h0 : x.hours ≤ p.hours
  c0 : x.cycles ≤ p.cycles
  h1 : p.hours ≤ imax (r.kinds.getD x.kind.toNat default).hours x.hours
  c1 : p.cycles ≤ imax (r.kinds.getD x.kind.toNat default).cycles x.cycles
  un : x.known = false → p.hours = x.hours ∧ p.cycles = x.cycles ∧ p.a < 0
def Liv (r : Reg) (s : HG) : Prop := ∀ (k : Nat) (p : PS), s.ps[k]? = some p → LivP r (r.parts.getD k default) p
theorem leftH_le (x : HI) (p : PS) : ∀ i, x.leftH p i ≤ x.leftH p 0
  | 0 => Int.le_refl _
  | i + 1 => by
    have := leftH_le x p i
    have e : x.leftH p (i + 1) = if x.leftI p i = true then imin (x.leftH p i) (wsub (x.r.orders.getD i default).within (p.since.getD i 0)) else x.leftH p i := rfl
    rw [e]
    split
    · unfold imin; split <;> omega
    · exact this
theorem Liv.new (r : Reg) : Liv r (HG.new r) := by
  intro k p hp
  have hp' : (r.parts.map (PS.new r))[k]? = some p := hp
  rw [List.getElem?_map] at hp'
  cases hq : r.parts[k]? with
  | none => rw [hq] at hp'; simp at hp'
  | some q =>
    rw [hq] at hp'
    simp only [Option.map_some, Option.some.injEq] at hp'
    subst hp'
    have hg : r.parts.getD k default = q := by simp [List.getD, hq]
    rw [hg]
    have hm : ∀ a b : Int, b ≤ imax a b := fun a b => by unfold imax; split <;> omega
    exact ⟨Int.le_refl _, Int.le_refl _, hm _ _, hm _ _, fun _ => ⟨rfl, rfl, by show (-1 : Int) < 0; omega⟩⟩
theorem Liv.step {r : Reg} {s : HG} {n : Nat} (hI : s.Inv r n) (h : Liv r s) {w : Wk} (hw : s.doOk w = true) : Liv r (s.step w) := by
  have hst : s.step w = { s.doDo w with wk := wadd s.wk 1 } := by simp only [HG.step, HG.after, hw, if_true]
  rw [hst]
  clear hst
  obtain ⟨v1, v2, v3, v4, v5, v6, v7, v8⟩ := valid_facts hI.val
  have hput : ∀ (m : Nat) (a b : Int), (a < 0 ∨ ∃ p, s.ps[m]? = some p ∧ p.known = true) → ∀ (k : Nat) (p' : PS), (s.ps.set m { s.ps.getD m default with a := a, b := b })[k]? = some p' → LivP r (r.parts.getD k default) p' := by
    intro m a b hab k p' hp'
    rcases getElem?_set_cases hp' with ⟨rfl, rfl, hl⟩ | ⟨_, e⟩
    · have e : s.ps[k]? = some s.ps[k] := List.getElem?_eq_getElem hl
      have hg : s.ps.getD k default = s.ps[k] := by simp [List.getD, hl]
      rw [hg]
      have hL := h k _ e
      refine ⟨hL.h0, hL.c0, hL.h1, hL.c1, fun hu => ⟨(hL.un hu).1, (hL.un hu).2.1, ?_⟩⟩
      rcases hab with ha | ⟨p, hp, hk⟩
      · exact ha
      · rw [e] at hp; cases hp
        have := (hI.pk k _ e).2.1
        rw [this, hu] at hk; cases hk
    · exact h k p' e
  by_cases k1 : w.kind = 1
  · have hf : s.flyOk w.a w.b w.c = true := by simpa [HG.doOk, k1] using hw
    simp only [HG.doDo, k1, if_true]
    simp only [HG.flyOk, Bool.and_eq_true, decide_eq_true_eq] at hf
    obtain ⟨f1, f2, f3, f4⟩ := hf
    simp only [withinB, decide_eq_true_eq] at f2 f3
    intro k p' hp'
    have hp2 : (s.ps.map (flyP s.iss w.a w.b w.c))[k]? = some p' := hp'
    rw [List.getElem?_map] at hp2
    cases hq : s.ps[k]? with
    | none => rw [hq] at hp2; simp at hp2
    | some q =>
      rw [hq] at hp2
      simp only [Option.map_some, Option.some.injEq] at hp2
      subst hp2
      have hL := h k q hq
      unfold flyP
      by_cases hm : q.a = w.a
      case neg => rw [if_neg hm]; exact hL
      rw [if_pos hm]
      have hfl : s.i.flies w.a w.b w.c = true := by rw [← longest_flies f2.1 f2.2]; exact decide_eq_true f4
      simp only [HI.flies, Bool.and_eq_true] at hfl
      have hcan := List.all_eq_true.1 hfl.2 q (List.mem_of_getElem? hq)
      simp only [HI.can, hm, beq_self_eq_true, Bool.not_true, Bool.false_or, Bool.and_eq_true, decide_eq_true_eq] at hcan
      obtain ⟨g1, g2⟩ := hcan
      have hkl : k < r.parts.length := by rw [← hI.psl]; exact (List.getElem?_eq_some_iff.1 hq).1
      obtain ⟨p1, _⟩ := hI.pk k q hq
      have hxb := v7 _ (getD_mem hkl)
      have hkm : (r.parts.getD k default).kind.toNat < r.kinds.length := by omega
      have hkb := v6 _ (getD_mem hkm)
      have hmx : ∀ a b : Int, a ≤ imax a b ∧ b ≤ imax a b ∧ (imax a b = a ∨ imax a b = b) := fun a b => by unfold imax; split <;> omega
      have e1 := hL.h0
      have e2 := hL.h1
      have e3 := hL.c0
      have e4 := hL.c1
      obtain ⟨m1, m2, m3⟩ := hmx (r.kinds.getD (r.parts.getD k default).kind.toNat default).hours (r.parts.getD k default).hours
      obtain ⟨m4, m5, m6⟩ := hmx (r.kinds.getD (r.parts.getD k default).kind.toNat default).cycles (r.parts.getD k default).cycles
      have hT : s.i.leftT q ≤ (r.kinds.getD (r.parts.getD k default).kind.toNat default).hours - q.hours := by
        have a1 := leftH_le s.i q s.i.r.orders.length
        have a2 : s.i.leftH q 0 = wsub (s.r.kinds.getD q.kind.toNat default).hours q.hours := rfl
        rw [hI.rg, p1] at a2
        have a3 : wsub (r.kinds.getD (r.parts.getD k default).kind.toNat default).hours q.hours = (r.kinds.getD (r.parts.getD k default).kind.toNat default).hours - q.hours := wrap_id (by omega) (by omega)
        rw [a2, a3] at a1
        exact a1
      have hC : s.i.leftC q = (r.kinds.getD (r.parts.getD k default).kind.toNat default).cycles - q.cycles := by
        have a2 : s.i.leftC q = wsub (s.r.kinds.getD q.kind.toNat default).cycles q.cycles := rfl
        rw [hI.rg, p1] at a2
        rw [a2]
        exact wrap_id (by omega) (by omega)
      have w1 : wadd q.hours w.b = q.hours + w.b := wrap_id (by omega) (by omega)
      have w2 : wadd q.cycles w.c = q.cycles + w.c := wrap_id (by omega) (by omega)
      refine ⟨by show _ ≤ wadd q.hours w.b; rw [w1]; omega, by show _ ≤ wadd q.cycles w.c; rw [w2]; omega, by show wadd q.hours w.b ≤ _; rw [w1]; omega, by show wadd q.cycles w.c ≤ _; rw [w2]; omega, fun hu => ?_⟩
      have := (hL.un hu).2.2
      have hma : s.i.machine w.a = withinB w.a 0 (wsub r.machines 1) := by show withinB w.a 0 (wsub s.r.machines 1) = _; rw [hI.rg]
      rw [hma] at f1
      simp only [withinB, decide_eq_true_eq] at f1
      omega
  by_cases k2 : w.kind = 2
  · have hf : s.fitOk w.a w.b w.c = true := by simpa [HG.doOk, k2] using hw
    simp only [HG.doDo, k2, Int.reduceEq, if_false, if_true]
    simp only [HG.fitOk, Bool.and_eq_true] at hf
    obtain ⟨f1, f2, f3, f4, f5, f6⟩ := hf
    obtain ⟨m, hm, hml⟩ := withinB_nat (m := s.ps.length) (by rw [hI.psl]; omega) f1
    rw [hm] at f4
    rw [Int.toNat_natCast] at f4
    have hk : ∃ p, s.ps[m]? = some p ∧ p.known = true := by
      have hg : s.ps.getD m default = s.ps[m] := by simp [List.getD, hml]
      rw [hg] at f4
      exact ⟨_, List.getElem?_eq_getElem hml, f4⟩
    rw [hm]
    unfold HG.fitDo
    split <;> exact fun k p' hp' => hput m w.b w.c (.inr hk) k p' hp'
  by_cases k5 : w.kind = 5
  · simp only [HG.doDo, k5, Int.reduceEq, if_false, if_true]
    intro k p' hp'
    rcases getElem?_set_cases hp' with ⟨hk, e, hl⟩ | ⟨_, e⟩
    · subst hk
      have e2 : s.ps[w.a.toNat]? = some s.ps[w.a.toNat] := List.getElem?_eq_getElem hl
      have hg : s.ps.getD w.a.toNat default = s.ps[w.a.toNat] := by simp [List.getD, hl]
      rw [hg] at e
      have hL := h _ _ e2
      subst e
      exact ⟨hL.h0, hL.c0, hL.h1, hL.c1, hL.un⟩
    · exact h k p' e
  by_cases k3 : w.kind = 3
  · simp only [HG.doDo, k3, Int.reduceEq, if_false, if_true]
    exact fun k p' hp' => hput w.a.toNat (-1) (-1) (.inl (by omega)) k p' hp'
  by_cases k4 : w.kind = 4
  · simp only [HG.doDo, k4, Int.reduceEq, if_false, if_true]
    exact h
  by_cases k6 : w.kind = 6
  · simp only [HG.doDo, k6, Int.reduceEq, if_false, if_true]
    exact fun k p' hp' => hput w.a.toNat (-2) (-2) (.inl (by omega)) k p' hp'
  · simp [HG.doOk, k1, k2, k5, k3, k4, k6] at hw
theorem stT_liv {r : Reg} {l : List Wk} (hv : r.valid = true) : ∀ k : Nat, k ≤ 1000000 → (∀ j, j < k → okAt r l j = true) → Liv r (stT r l k)
  | 0, _, _ => Liv.new r
  | k + 1, hk, h => (stT_liv hv k (by omega) fun j hj => h j (by omega)).step (stT_inv hv k (by omega) fun j hj => h j (by omega)) (h k (by omega))
theorem opE_liv {r : Reg} {l : List Wk} (h : opE r l = 0) : Liv r (opH r l) := by
  obtain ⟨h1, h2, h3, _⟩ := opE_inv h
  exact stT_liv h1 _ (by omega) h3
end Go.Sx
end
