/- A part of a proof; no conditions. -/
import Derived.Test.YtnpdjaikmdagmaaDoorP17
import Derived.Test.YtnpdjaikmdagmaaDoorP19
import Derived.Test.YtnpdjaikmdagmaaDoorP18
set_option linter.unusedSimpArgs false
set_option linter.unusedVariables false
set_option linter.unusedSectionVars false
section
/- Parts: Suspects. No conditions. -/
set_option linter.unusedSimpArgs false
set_option linter.unusedSectionVars false
set_option maxRecDepth 100000
set_option maxHeartbeats 4000000
namespace Go.Sx
open Go.Proofs
attribute [local irreducible] HLe
attribute [local simp] hps_app

structure SuD where
  r : Reg
  l : List Wk
  m : Int
  pl : List (Int × Int)
  ch : List (Int × Int)
  deriving Inhabited
@[simp] def suE (d : SuD) : List V := [.agg d.r.row, .sl 4 (d.l.map Wk.row), .int .i64 d.m, .sl 2 (d.pl.map cycV), .sl 2 (d.ch.map cycV)]
theorem suE_inj (a b : SuD) (h : suE a = suE b) : a = b := by
  obtain ⟨r, l, m, p, c⟩ := a; obtain ⟨r', l', m', p', c'⟩ := b
  simp only [suE, List.cons.injEq, V.agg.injEq, V.sl.injEq, V.int.injEq, true_and, and_true] at h
  rw [Reg.row_inj _ _ h.1, map_inj Wk.row_inj h.2.1, h.2.2.1, cycV_inj h.2.2.2.1, cycV_inj h.2.2.2.2]
theorem suE_dec' (r : Reg) (l : List Wk) (m : Int) (p c : List (Int × Int)) : decC suE [.agg [.sl 3 (r.kinds.map Kd.row), .sl 4 (r.parts.map Pt.row), .int .i64 r.machines, .sl 2 (r.orders.map Od.row)], .sl 4 (l.map Wk.row), .int .i64 m, .sl 2 (p.map cycV), .sl 2 (c.map cycV)] = ⟨r, l, m, p, c⟩ := decC_eq suE_inj ⟨r, l, m, p, c⟩
structure SuP (d : SuD) : Prop where
  f : RL.Fine ⟨d.r, d.l⟩
  p : d.pl.length ≤ 9223372036854775807
  c : d.ch.length ≤ 9223372036854775807
/-- The parts at the places of some gears. -/
def HI.suOut (x : HI) (m : Int) (pl : List (Int × Int)) (w : List Int) : List Int := (w.map fun g => x.at (pl.getD g.toNat (0, 0)).1 m (pl.getD g.toNat (0, 0)).2).filter fun n => decide (0 ≤ n)
def suSet (l : List Int) : List Int := cpTo (srtZ l) (srtZ l).length
def HI.suBad (x : HI) (m : Int) (pl : List (Int × Int)) : Bool := !x.machine m || (!withinB pl.length 1 12 || pl.any x.badPl)
def suEr (r : Reg) (l : List Wk) (m : Int) (pl ch : List (Int × Int)) : Int := if opE r l = 0 then (if (opH r l).i.suBad m pl = true then 1 else if (explR 8 pl.length ch).2.2 = 0 then 0 else 1) else opE r l
def suRe (r : Reg) (l : List Wk) (m : Int) (pl ch : List (Int × Int)) : List Int := if suEr r l m pl ch = 0 then suSet ((opH r l).i.suOut m pl (explR 8 pl.length ch).2.1) else []
noncomputable abbrev suS : PSpec := mkP suE SuP fun d => .tup [ints (suRe d.r d.l d.m d.pl d.ch), .int .i64 (suEr d.r d.l d.m d.pl d.ch)]
theorem HI.suOut_succ (x : HI) (m : Int) (pl : List (Int × Int)) {w : List Int} {k : Nat} {g : Int} (hg : w[k]? = some g) :
    x.suOut m pl (w.take (k + 1)) = x.suOut m pl (w.take k) ++ if 0 ≤ x.at (pl.getD g.toNat (0, 0)).1 m (pl.getD g.toNat (0, 0)).2 then [x.at (pl.getD g.toNat (0, 0)).1 m (pl.getD g.toNat (0, 0)).2] else [] := by
  unfold HI.suOut
  rw [List.take_add_one, hg, List.map_append, List.filter_append]
  congr 1
  simp only [Option.toList, List.map_cons, List.map_nil, List.filter_cons, List.filter_nil, decide_eq_true_eq]
theorem HI.suOut_len (x : HI) (m : Int) (pl : List (Int × Int)) (w : List Int) : (x.suOut m pl w).length ≤ w.length := by
  have := List.length_filter_le (fun n => decide ((0 : Int) ≤ n)) (w.map fun g => x.at (pl.getD g.toNat (0, 0)).1 m (pl.getD g.toNat (0, 0)).2)
  rwa [List.length_map] at this
theorem sgL_dec' (x : HI) (l : List (Int × Int)) : decC sgL [.sl 2 (l.map cycV), .fn 36 [.ip 1 [[.ip 9 [[.sl 3 (x.r.kinds.map Kd.row), .sl 4 (x.r.parts.map Pt.row), .int .i64 x.r.machines, .sl 2 (x.r.orders.map Od.row), ptsI x.ps, .sl 1 (x.iss.map rb), x.v1, x.v2, x.v3]] 0 0]] 0 0]] = ⟨x, l⟩ := sgL_dec x l
noncomputable abbrev E17 : Env := { P := Tryd.prog, fn := tbl [(19, .pure ExplainS), (35, .pure openS), (36, .pure sgS), (37, .pure withinS), (38, .pure machineS), (39, .pure sgaS), (40, .pure haS), (41, .heap srt0S), (42, .heap cpcS)], own := [], key := 1700, nt := 87 }
theorem b17 : PureBody E17 [] Tryd.f17 suS := by
  refine pb ?_
  rintro ⟨r, l, m, pl, ch⟩ ⟨hfn, hpl, hch⟩
  simp only at hfn hpl hch
  by_cases hE : opE r l = 0
  case neg =>
    have hR : suEr r l m pl ch = opE r l := by simp [suEr, hE]
    have hR2 : suRe r l m pl ch = [] := by simp [suRe, hR, hE]
    simp -dsimp [Tryd.f17, E17, Reg.row]
    repeat' (first | omega | (simp -dsimp [E17, ri, cellp, ints, rlE_dec', Reg.row, hfn, hE, hR, hR2]) | (refine Also.intro ?_ fun _ => ?_) | (refine Hold.intro fun _ => ?_) | (refine And.intro ?_ ?_))
  have hI := (opE_inv hE).2.2.2
  have hlen : (opH r l).i.ps.length ≤ 1000 := (opE_ok hE).ps
  have hkl : (opH r l).i.r.kinds.length ≤ 6 := by
    show (opH r l).r.kinds.length ≤ 6
    rw [hI.rg]; exact (valid_facts hI.val).1
  have hkl' : (opH r l).i.r.kinds.length ≤ 9223372036854775807 := by omega
  have hlen' : (opH r l).i.ps.length ≤ 9223372036854775807 := by omega
  have hsg : SgP ⟨(opH r l).i, pl⟩ := ⟨hkl', hpl⟩
  have hEr : suEr r l m pl ch = if (opH r l).i.suBad m pl = true then 1 else if (explR 8 pl.length ch).2.2 = 0 then 0 else 1 := by simp [suEr, hE]
  have hRe : suRe r l m pl ch = if suEr r l m pl ch = 0 then suSet ((opH r l).i.suOut m pl (explR 8 pl.length ch).2.1) else [] := rfl
  generalize hs : (opH r l).i = s at *
  cases hm : s.machine m
  · have hb : s.suBad m pl = true := by simp [HI.suBad, hm]
    rw [if_pos hb] at hEr
    rw [hEr, if_neg (by decide)] at hRe
    simp -dsimp [Tryd.f17, E17, Reg.row]
    repeat' (first | omega | (simp -dsimp [E17, ri, cellp, ints, rlE_dec', Reg.row, hfn, hE, hs, HI.v, hiE_dec', hm, hEr, hRe]) | (refine Also.intro ?_ fun _ => ?_) | (refine Hold.intro fun _ => ?_) | (refine And.intro ?_ ?_))
  cases hw : withinB pl.length 1 12
  · have hb : s.suBad m pl = true := by simp [HI.suBad, hw]
    rw [if_pos hb] at hEr
    rw [hEr, if_neg (by decide)] at hRe
    simp -dsimp [Tryd.f17, E17, Reg.row]
    repeat' (first | omega | (simp -dsimp [E17, ri, cellp, ints, rlE_dec', Reg.row, hfn, hE, hs, HI.v, hiE_dec', hm, hw, hEr, hRe]) | (refine Also.intro ?_ fun _ => ?_) | (refine Hold.intro fun _ => ?_) | (refine And.intro ?_ ?_))
  cases hy : pl.any s.badPl
  case true =>
    have hb : s.suBad m pl = true := by simp [HI.suBad, hy]
    rw [if_pos hb] at hEr
    rw [hEr, if_neg (by decide)] at hRe
    simp -dsimp [Tryd.f17, E17, Reg.row]
    repeat' (first | omega | (simp -dsimp [E17, ri, cellp, ints, rlE_dec', Reg.row, hfn, hE, hs, HI.v, hiC, hiE_dec', hm, hw, hy, sgL_dec', hsg, hEr, hRe]) | (refine Also.intro ?_ fun _ => ?_) | (refine Hold.intro fun _ => ?_) | (refine And.intro ?_ ?_))
  have hb : ¬ s.suBad m pl = true := by simp [HI.suBad, hm, hw, hy]
  rw [if_neg hb] at hEr
  by_cases hx : (explR 8 pl.length ch).2.2 = 0
  case neg =>
    rw [if_neg hx] at hEr
    rw [hEr, if_neg (by decide)] at hRe
    simp -dsimp [Tryd.f17, E17, Reg.row]
    repeat' (first | omega | (simp -dsimp [E17, ri, cellp, ints, rlE_dec', Reg.row, hfn, hE, hs, HI.v, hiC, hiE_dec', hm, hw, hy, sgL_dec', hsg, hpl, hch, hx, hEr, hRe]) | (refine Also.intro ?_ fun _ => ?_) | (refine Hold.intro fun _ => ?_) | (refine And.intro ?_ ?_))
  rw [if_pos hx] at hEr
  rw [hEr, if_pos rfl] at hRe
  have hwl : (explR 8 pl.length ch).2.1.length ≤ pl.length := expl_len (S := 8)
  have hwg : ∀ g ∈ (explR 8 pl.length ch).2.1, 0 ≤ g ∧ g < pl.length := expl_worn (S := 8)
  have hp12 : pl.length ≤ 12 := by
    have : 1 ≤ (pl.length : Int) ∧ (pl.length : Int) ≤ 12 := by simpa [withinB] using hw
    omega
  simp -dsimp [Tryd.f17, E17, Reg.row]
  repeat' (first | omega | (simp -dsimp [E17, ri, cellp, ints, rlE_dec', Reg.row, hfn, hE, hs, HI.v, hiC, hiE_dec', hm, hw, hy, sgL_dec', hsg, hpl, hch, hx]) | (refine Also.intro ?_ fun _ => ?_) | (refine Hold.intro fun _ => ?_) | (refine And.intro ?_ ?_))
  generalize (explR 8 pl.length ch).2.1 = wo at *
  have hwo : wo.length ≤ 12 := by omega
  clear hb hx
  refine awp_loop_g [(10, 1781, 1, 3)] rfl (by simp) [59, 60, 61, 18, 62, 63, 64, 65, 66, 67, 68, 69, 70, 71, 72, 73, 74, 75, 19, 76, 77, 78, 79, 80, 81, 10, 82, 58] (fun k : Fin (wo.length + 1) => [(58, (true, .int .i64 (k.1 : Nat))), (10, (true, .bsl 1781 0 (s.suOut m pl (wo.take k.1)).length))])
    (fun k => hps [(1781, { base := 0, blks := [{ z := 1, els := (s.suOut m pl (wo.take k.1)).map ri, ty := 3 }] }), (1712, { base := 0, blks := [{ z := 1, els := [[.ip 9 [[.sl 3 (s.r.kinds.map Kd.row), .sl 4 (s.r.parts.map Pt.row), .int .i64 s.r.machines, .sl 2 (s.r.orders.map Od.row), ptsI s.ps, .sl 1 (s.iss.map rb), s.v1, s.v2, s.v3]] 0 0]], ty := 74 }] }), (1705, { base := 0, blks := [{ z := 4, els := [[.sl 3 (r.kinds.map Kd.row), .sl 4 (r.parts.map Pt.row), .int .i64 r.machines, .sl 2 (r.orders.map Od.row)]], ty := 43 }] })] noH) (fun k => wo.length - k.1) ⟨0, by omega⟩ ?_ ?_ ?_
  · simp [okAll, okv, HI.suOut]
  · exact (by (try simp -dsimp only [hpush_noH, hpush_hps, hps_over]); refine hle_hps ?_; simp -dsimp [allK, HI.suOut]; repeat' (first | (refine And.intro ?_ ?_) | (refine sLe.same ?_ ?_ <;> (simp; done)) | (refine sLe.clear ?_ ?_ <;> (first | (simp; done) | (simp; omega))) | (refine sLe.drop 1 ?_ ?_ ?_ <;> (simp; done))))
  rintro ⟨k, hk⟩
  simp only
  by_cases hk1 : k < wo.length
  · have hki : ((k : Int) < wo.length) = True := eq_true (by omega)
    have wk : IntKind.wrap .i64 ((k : Int) + 1) = (k + 1 : Nat) := wrap_id (by omega) (by omega)
    obtain ⟨g, hg, hg'⟩ := get_ex hk1
    obtain ⟨q1, q2⟩ := hwg g (by rw [← hg']; exact List.getElem_mem hk1)
    obtain ⟨G, rfl⟩ : ∃ G : Nat, g = G := ⟨g.toNat, by omega⟩
    have hGl : G < pl.length := by omega
    have hGi : ((G : Int) < pl.length) = True := eq_true (by omega)
    obtain ⟨⟨x, y⟩, hG, hG'⟩ := get_ex hGl
    have hT := s.suOut_succ m pl hg
    have hGd : pl.getD (G : Int).toNat (0, 0) = (x, y) := by simp [List.getD, hG]
    rw [hGd] at hT
    simp only at hT
    have hTl : (s.suOut m pl (wo.take k)).length ≤ 12 := by have := s.suOut_len m pl (wo.take k); rw [List.length_take] at this; omega
    generalize s.suOut m pl (wo.take k) = T at *
    have hb8 : (T.length + 1) * 8 ≤ 140737488355328 := by omega
    by_cases h0 : 0 ≤ s.at x m y
    · rw [if_pos h0] at hT
      simp -dsimp [hki]
      repeat' (first | omega | (simp -dsimp [E17, ri, cellp, ints, hki, hk1, hg, hg', wk, hGl, hGi, hG, hG', cycV, HI.v, haE_dec', hlen', h0, hb8]) | (refine Also.intro ?_ fun _ => ?_) | (refine Hold.intro fun _ => ?_) | (refine And.intro ?_ ?_))
      refine ⟨⟨k + 1, by omega⟩, tle_chain rfl ?_, (by (try simp -dsimp only [hpush_noH, hpush_hps, hps_over]); refine hle_hps ?_; simp -dsimp [allK, hT, ri]; repeat' (first | (refine And.intro ?_ ?_) | (refine sLe.same ?_ ?_ <;> (simp; done)) | (refine sLe.clear ?_ ?_ <;> (first | (simp; done) | (simp; omega))) | (refine sLe.drop 1 ?_ ?_ ?_ <;> (simp; done)))), by simp only; omega⟩
      simp [okAll, okv, hT]
    · rw [if_neg h0, List.append_nil] at hT
      have h0' : (0 ≤ s.at x m y) = False := eq_false h0
      simp -dsimp [hki]
      repeat' (first | omega | (simp -dsimp [E17, ri, cellp, ints, hki, hk1, hg, hg', wk, hGl, hGi, hG, hG', cycV, HI.v, haE_dec', hlen', h0', hb8]) | (refine Also.intro ?_ fun _ => ?_) | (refine Hold.intro fun _ => ?_) | (refine And.intro ?_ ?_))
      refine ⟨⟨k + 1, by omega⟩, tle_chain rfl ?_, (by (try simp -dsimp only [hpush_noH, hpush_hps, hps_over]); refine hle_hps ?_; simp -dsimp [allK, hT, ri]; repeat' (first | (refine And.intro ?_ ?_) | (refine sLe.same ?_ ?_ <;> (simp; done)) | (refine sLe.clear ?_ ?_ <;> (first | (simp; done) | (simp; omega))) | (refine sLe.drop 1 ?_ ?_ ?_ <;> (simp; done)))), by simp only; omega⟩
      simp [okAll, okv, hT]
  have hkn : ((k : Int) < wo.length) = False := eq_false (by omega)
  have hke : k = wo.length := by omega
  subst hke
  rw [List.take_length]
  have hTl : (s.suOut m pl wo).length ≤ 12 := by have := s.suOut_len m pl wo; omega
  generalize s.suOut m pl wo = T at *
  have hS : ∀ h : Hp, hget h 1781 0 = some { z := 1, els := T.map ri, ty := 3 } → srt0S.go [.bsl 1781 0 T.length] h = ⟨True, .tup [], hset h 1781 0 { z := 1, els := (srtZ T).map ri, ty := 3 }⟩ := fun h hB => srt0_go hB (by omega)
  have hZl := srtZ_len T
  have hC : ∀ h : Hp, hget h 1781 0 = some { z := 1, els := (srtZ T).map ri, ty := 3 } → cpcS.go [.bsl 1781 0 T.length] h = ⟨True, cpcV 1781 0 (srtZ T), hset h 1781 0 { z := 1, els := (cpcL (srtZ T)).map ri, ty := 3 }⟩ := fun h hB => by
    rw [← hZl]; exact cpc_go hB (by omega) (by decide)
  have hRe' : suRe r l m pl ch = cpTo (srtZ T) (srtZ T).length := hRe
  generalize srtZ T = Z at *
  have hm1 := cpTo_len Z Z.length
  have hcL : (cpcL Z).map ri = (cpTo Z Z.length).map ri ++ List.replicate (Z.length - (cpTo Z Z.length).length) (ri 0) := by simp [cpcL]
  generalize hD : cpTo Z Z.length = D at *
  by_cases hDl : D.length = Z.length
  · have hV : cpcV 1781 0 Z = .bsl 1781 0 Z.length := by unfold cpcV; rw [hD, if_pos hDl]
    have hcL2 : (cpcL Z).map ri = D.map ri := by rw [hcL, hDl]; simp
    simp -dsimp [hkn]
    repeat' (first | omega | (simp -dsimp [E17, ri, cellp, ints, hkn, hS, hC, hV, hcL2, hRe', hEr, hDl, hZl]) | (refine Also.intro ?_ fun _ => ?_) | (refine Hold.intro fun _ => ?_) | (refine And.intro ?_ ?_))
  · have hV : cpcV 1781 0 Z = .osl 1781 0 Z.length 0 D.length Z.length := by unfold cpcV; rw [hD, if_neg hDl]
    have htk : ((cpcL Z).map ri).take D.length = D.map ri := by rw [hcL]; exact List.take_left' (by simp)
    have hcl : (cpcL Z).length = Z.length := by simp [cpcL, hD]; omega
    simp -dsimp [hkn]
    repeat' (first | omega | (simp -dsimp [E17, ri, cellp, ints, hkn, hS, hC, hV, htk, hcl, hRe', hEr, hZl]) | (refine Also.intro ?_ fun _ => ?_) | (refine Hold.intro fun _ => ?_) | (refine And.intro ?_ ?_))
theorem ok17 : FnOK Tryd.prog 17 (.pure suS) := pure_fn (E := E17) rfl (.cons ok19 (.cons ok35 (.cons ok36 (.cons ok37 (.cons ok38 (.cons ok39 (.cons ok40 (.cons ok41 (.cons ok42 .nil))))))))) (ok := []) (fn := Tryd.f17) (by kernel_rfl) (by kernel_rfl) (by kernel_rfl) (by kernel_rfl) rfl (fun _ _ => by simp) b17
end Go.Sx
end
section
/- Parts: the reference's state. No conditions. -/
set_option linter.unusedSimpArgs false
set_option linter.unusedSectionVars false
namespace Go.Sx

structure RS where
  used : List (Int × Int)
  whr : List (Int × Int)
  iss : List Bool
  since : List (List Int)
  done : List (List Bool)
  deriving Inhabited
def bls (l : List Bool) : V := .sl 1 (l.map rb)
def snV (l : List (List Int)) : V := if l = [] then .nil else .sl 1 (l.map fun x => [ints x])
def dnV (l : List (List Bool)) : V := if l = [] then .nil else .sl 1 (l.map fun x => [bls x])
def RS.row (t : RS) : List V := [.sl 2 (t.used.map cycV), .sl 2 (t.whr.map cycV), .sl 1 (t.iss.map rb), snV t.since, dnV t.done]
theorem ints_inj1 (a b : List Int) (h : [ints a] = [ints b]) : a = b := ints_inj (by simpa using h)
theorem bls_inj1 (a b : List Bool) (h : [bls a] = [bls b]) : a = b := by
  simp only [bls, List.cons.injEq, V.sl.injEq, true_and, and_true] at h
  exact map_inj rb_inj h
theorem snV_inj {a b : List (List Int)} (h : snV a = snV b) : a = b := by
  unfold snV at h
  split at h <;> split at h
  · rename_i h1 h2; rw [h1, h2]
  · cases h
  · cases h
  · simp only [V.sl.injEq, true_and] at h; exact map_inj ints_inj1 h
theorem dnV_inj {a b : List (List Bool)} (h : dnV a = dnV b) : a = b := by
  unfold dnV at h
  split at h <;> split at h
  · rename_i h1 h2; rw [h1, h2]
  · cases h
  · cases h
  · simp only [V.sl.injEq, true_and] at h; exact map_inj bls_inj1 h
@[simp high] theorem len_snV (l : List (List Int)) : (snV l).len = some l.length := by
  unfold snV; split
  · rename_i e; subst e; rfl
  · simp [V.len]
@[simp high] theorem len_dnV (l : List (List Bool)) : (dnV l).len = some l.length := by
  unfold dnV; split
  · rename_i e; subst e; rfl
  · simp [V.len]
theorem snV_ne {l : List (List Int)} (h : 0 < l.length) : snV l = .sl 1 (l.map fun x => [ints x]) := by unfold snV; rw [if_neg]; rintro rfl; simp at h
theorem dnV_ne {l : List (List Bool)} (h : 0 < l.length) : dnV l = .sl 1 (l.map fun x => [bls x]) := by unfold dnV; rw [if_neg]; rintro rfl; simp at h
theorem RS.row_inj (a b : RS) (h : a.row = b.row) : a = b := by
  obtain ⟨u, w, i, s, d⟩ := a; obtain ⟨u', w', i', s', d'⟩ := b
  simp only [RS.row, List.cons.injEq, V.sl.injEq, true_and, and_true] at h
  obtain ⟨h1, h2, h3, h4, h5⟩ := h
  rw [cycV_inj h1, cycV_inj h2, map_inj rb_inj h3, snV_inj h4, dnV_inj h5]
/-- A part of the reference's state, as the program keeps one. -/
def RS.pt (t : RS) (r : Reg) (p : Nat) : PS := { kind := (r.parts.getD p default).kind, hours := (t.used.getD p (0, 0)).1, cycles := (t.used.getD p (0, 0)).2, known := (r.parts.getD p default).known, a := (t.whr.getD p (0, 0)).1, b := (t.whr.getD p (0, 0)).2, since := t.since.map fun l => l.getD p 0, chk := t.done.map fun l => l.getD p false }
def RS.ps (t : RS) (r : Reg) : List PS := (List.range r.parts.length).map (t.pt r)
def RS.hi (t : RS) (r : Reg) : HI := { r := r, ps := t.ps r, iss := t.iss, v1 := .top, v2 := .top, v3 := .top }
theorem RS.ps_len (t : RS) (r : Reg) : (t.ps r).length = r.parts.length := by simp [RS.ps]
theorem RS.ps_get (t : RS) (r : Reg) {p : Nat} (h : p < r.parts.length) : (t.ps r)[p]? = some (t.pt r p) := by simp [RS.ps, h]
/-- A state of a register. -/
structure RS.Wf (t : RS) (r : Reg) : Prop where
  val : r.valid = true
  used : t.used.length = r.parts.length
  whr : t.whr.length = r.parts.length
  iss : t.iss.length = r.orders.length
  since : t.since.length = r.orders.length
  done : t.done.length = r.orders.length
  sincer : ∀ l ∈ t.since, l.length = r.parts.length
  doner : ∀ l ∈ t.done, l.length = r.parts.length
theorem RS.Wf.small {t : RS} {r : Reg} (h : t.Wf r) : (t.hi r).Small := by
  obtain ⟨v1, v2, v3, v4, v5, v6, _⟩ := valid_facts h.val
  exact ⟨by show (t.ps r).length ≤ 1000; rw [RS.ps_len]; omega, by show r.kinds.length ≤ 1000; omega, fun kd hk => by have := v6 kd hk; omega⟩
theorem RS.Wf.fit {t : RS} {r : Reg} (h : t.Wf r) {p : Nat} (hp : p < r.parts.length) : (t.hi r).Fit (t.pt r p) := by
  obtain ⟨v1, v2, v3, v4, v5, v6, v7, v8⟩ := valid_facts h.val
  have := v7 _ (getD_mem hp)
  exact ⟨this.1, this.2.1, h.iss, by simp [RS.pt, RS.hi, h.done], by simp [RS.pt, RS.hi, h.since], by show r.orders.length ≤ _; omega⟩
/-- The state at first. -/
def RS.new (r : Reg) : RS := { used := r.parts.map fun p => (p.hours, p.cycles), whr := r.parts.map fun _ => (-1, -1), iss := List.replicate r.orders.length false, since := List.replicate r.orders.length (List.replicate r.parts.length 0), done := List.replicate r.orders.length (List.replicate r.parts.length false) }
theorem RS.Wf.new {r : Reg} (h : r.valid = true) : (RS.new r).Wf r :=
  ⟨h, by simp [RS.new], by simp [RS.new], by simp [RS.new], by simp [RS.new], by simp [RS.new], fun l hl => by rw [(List.mem_replicate.1 hl).2]; simp, fun l hl => by rw [(List.mem_replicate.1 hl).2]; simp⟩

/-! the object that 'copied' makes -/
def lsV (k n : Nat) : V := if n = 0 then .nil else .bsl k 0 n
def lsB (rows : List (List V)) (ty : Nat) : List Blk := if rows.length = 0 then [] else [{ z := 1, els := rows, ty := ty, cl := false }]
theorem lsV_ne {k n : Nat} (h : 0 < n) : lsV k n = .bsl k 0 n := by unfold lsV; rw [if_neg (by omega)]
theorem lsB_ne {rows : List (List V)} {ty : Nat} (h : 0 < rows.length) : lsB rows ty = [{ z := 1, els := rows, ty := ty, cl := false }] := by unfold lsB; rw [if_neg (by omega)]
def snR (l : List (List Int)) : List (List V) := l.mapIdx fun k x => [.bsl 8429 k x.length]
def dnR (l : List (List Bool)) : List (List V) := l.mapIdx fun k x => [.bsl 8440 k x.length]
def cpB (l : List (Int × Int)) : Blk := { z := 2, els := l.map cycV, ty := 55 }
def ibB (l : List Int) : Blk := { z := 1, els := l.map ri, ty := 3 }
def bbB (l : List Bool) : Blk := { z := 1, els := l.map rb, ty := 4 }
def cpL (t : RS) : List (Nat × Site) :=
  [(8407, { base := 0, blks := [cpB t.used] }), (8410, { base := 0, blks := [cpB t.whr] }), (8413, { base := 0, blks := [bbB t.iss] }),
   (8431, { base := 0, blks := lsB (snR t.since) 36 }), (8429, { base := 0, blks := t.since.map ibB }), (8442, { base := 0, blks := lsB (dnR t.done) 78 }), (8440, { base := 0, blks := t.done.map bbB })]
abbrev cpK : List Nat := [8407, 8410, 8413, 8431, 8429, 8442, 8440]
theorem cpL_keys (t : RS) : (cpL t).map (·.1) = cpK := rfl
def cpV (t : RS) : V := .agg [.bsl 8407 0 t.used.length, .bsl 8410 0 t.whr.length, .bsl 8413 0 t.iss.length, lsV 8431 t.since.length, lsV 8442 t.done.length]
theorem cpL_inj (s s' : RS) (h : ∀ k ∈ cpK, hps (cpL s) noH k = hps (cpL s') noH k) : s = s' := by
  have h1 := congrArg Site.blks (h 8407 (by simp))
  have h2 := congrArg Site.blks (h 8410 (by simp))
  have h3 := congrArg Site.blks (h 8413 (by simp))
  have h4 := congrArg Site.blks (h 8429 (by simp))
  have h5 := congrArg Site.blks (h 8440 (by simp))
  simp only [cpL, hps_cons] at h1 h2 h3 h4 h5
  simp at h1 h2 h3 h4 h5
  obtain ⟨u, w, i, sn, d⟩ := s; obtain ⟨u', w', i', sn', d'⟩ := s'
  simp only [cpB, bbB, Blk.mk.injEq, true_and, and_true] at h1 h2 h3
  have e4 := map_inj (f := ibB) (fun a b h => by simp only [ibB, Blk.mk.injEq, true_and, and_true] at h; exact map_ri_inj h) h4
  have e5 := map_inj (f := bbB) (fun a b h => by simp only [bbB, Blk.mk.injEq, true_and, and_true] at h; exact map_inj rb_inj h) h5
  simp only at e4 e5
  rw [cycV_inj h1, cycV_inj h2, map_inj rb_inj h3, e4, e5]
section
variable [Gls] (s : RS) (h : Hp)
@[simp] theorem c8407 : Ob cpL s h 8407 = { base := 0, blks := [{ z := 2, els := s.used.map cycV, ty := 55 }] } := rfl
@[simp] theorem c8410 : Ob cpL s h 8410 = { base := 0, blks := [{ z := 2, els := s.whr.map cycV, ty := 55 }] } := rfl
@[simp] theorem c8413 : Ob cpL s h 8413 = { base := 0, blks := [{ z := 1, els := s.iss.map rb, ty := 4 }] } := rfl
@[simp] theorem c8431 : Ob cpL s h 8431 = { base := 0, blks := lsB (snR s.since) 36 } := rfl
@[simp] theorem c8429 : Ob cpL s h 8429 = { base := 0, blks := s.since.map ibB } := rfl
@[simp] theorem c8442 : Ob cpL s h 8442 = { base := 0, blks := lsB (dnR s.done) 78 } := rfl
@[simp] theorem c8440 : Ob cpL s h 8440 = { base := 0, blks := s.done.map bbB } := rfl
@[simp] theorem c_ne {k : Nat} (hn : cpK.contains k = false) : Ob cpL s h k = h k := ob_ne cpL_keys hn
@[simp] theorem c_c (s' : RS) : Ob cpL s (Ob cpL s' h) = Ob cpL s h := ob_ob cpL_keys _ _ _
@[simp] theorem c_hget (k i : Nat) : hget (Ob cpL s h) k i = if i < (Ob cpL s h k).base then none else (Ob cpL s h k).blks[i - (Ob cpL s h k).base]? := rfl
@[simp] theorem c_hnext (k : Nat) : hnext (Ob cpL s h) k = (Ob cpL s h k).base + (Ob cpL s h k).blks.length := rfl
@[simp] theorem c_hpush {k : Nat} (hn : cpK.contains k = false) (B : Blk) : hpush (Ob cpL s h) k B = Ob cpL s (hpush h k B) := ob_hpush cpL_keys hn B
theorem c_hset {k i : Nat} (hn : cpK.contains k = false) (B : Blk) : hset (Ob cpL s h) k i B = Ob cpL s (hset h k i B) := ob_hset cpL_keys hn B
@[simp] theorem c_over {k : Nat} {S : Site} {L : List (Nat × Site)} (hn : (((k, S) :: L).all fun p => !cpK.contains p.1) = true) : hps ((k, S) :: L) (Ob cpL s h) = Ob cpL s (hps ((k, S) :: L) h) := ob_over cpL_keys hn
end
section lend
variable [Gls]
theorem lendRs_mapIdx {α : Type} {g : V → Prop × V} {f : Nat → α → List V} {f' : α → List V} {l : List α} (h : ∀ k x, l[k]? = some x → lendCs g (f k x) = (True, f' x)) : lendRs g (l.mapIdx f) = (True, l.map f') := by
  induction l generalizing f with
  | nil => rfl
  | cons a r ih =>
    simp only [List.mapIdx_cons, List.map_cons, lendRs]
    rw [h 0 a rfl, ih (f := fun k x => f (k + 1) x) fun k x hk => h (k + 1) x hk]
    simp
theorem lend_sn (s : RS) (h : Hp) : lendN 3 (Ob cpL s h) (lsV 8431 s.since.length) = (True, snV s.since) := by
  by_cases hn : s.since.length = 0
  · have : s.since = [] := List.length_eq_zero_iff.1 hn
    rw [hn]; simp [lsV, this, lendN, snV]
  · have h0 : ¬ s.since = [] := fun e => hn (by rw [e]; rfl)
    rw [lsV_ne (by omega), snV_ne (by omega)]
    have hr : lendRs (lendN 2 (Ob cpL s h)) (snR s.since) = (True, s.since.map fun l => [ints l]) := by
      refine lendRs_mapIdx fun k x hk => ?_
      have e : (s.since.map ibB)[k]? = some { z := 1, els := x.map ri, ty := 3 } := by rw [List.getElem?_map, hk]; rfl
      simp [lendCs, lendN, V.leaf, e, lendB, ints]
    rw [lendN]
    simp only [c_hget, c8431, Nat.not_lt_zero, if_false, Nat.sub_zero]
    rw [lsB_ne (by simp [snR]; omega)]
    simp only [List.getElem?_cons_zero, lendB, hr]
    simp [snR]
theorem lend_dn (s : RS) (h : Hp) : lendN 3 (Ob cpL s h) (lsV 8442 s.done.length) = (True, dnV s.done) := by
  by_cases hn : s.done.length = 0
  · have : s.done = [] := List.length_eq_zero_iff.1 hn
    rw [hn]; simp [lsV, this, lendN, dnV]
  · have h0 : ¬ s.done = [] := fun e => hn (by rw [e]; rfl)
    rw [lsV_ne (by omega), dnV_ne (by omega)]
    have hr : lendRs (lendN 2 (Ob cpL s h)) (dnR s.done) = (True, s.done.map fun l => [bls l]) := by
      refine lendRs_mapIdx fun k x hk => ?_
      have e : (s.done.map bbB)[k]? = some { z := 1, els := x.map rb, ty := 4 } := by rw [List.getElem?_map, hk]; rfl
      simp [lendCs, lendN, V.leaf, e, lendB, bls]
    rw [lendN]
    simp only [c_hget, c8442, Nat.not_lt_zero, if_false, Nat.sub_zero]
    rw [lsB_ne (by simp [dnR]; omega)]
    simp only [List.getElem?_cons_zero, lendB, hr]
    simp [dnR]
theorem leaf_lsV (k n : Nat) : (lsV k n).leaf = true := by unfold lsV; split <;> rfl
/-- The state that 'copied' returns, lent. -/
theorem lend_cp (s : RS) (h : Hp) : lend (Ob cpL s h) (cpV s) = (True, .agg s.row) := by
  have z1 : lendN 3 (Ob cpL s h) (.bsl 8407 0 s.used.length) = (True, .sl 2 (s.used.map cycV)) := by simp [lendN, lendB]
  have z2 : lendN 3 (Ob cpL s h) (.bsl 8410 0 s.whr.length) = (True, .sl 2 (s.whr.map cycV)) := by simp [lendN, lendB]
  have z3 : lendN 3 (Ob cpL s h) (.bsl 8413 0 s.iss.length) = (True, .sl 1 (s.iss.map rb)) := by simp [lendN, lendB]
  have z4 := lend_sn s h
  have z5 := lend_dn s h
  simp only [cpV, lend, lends1, lend1, z1, z2, z3, z4, z5, RS.row]
  simp
end lend
end Go.Sx
end
section
/- Parts: what the reference reads. No conditions. -/
set_option linter.unusedSimpArgs false
set_option linter.unusedSectionVars false
set_option maxRecDepth 100000
set_option maxHeartbeats 2000000
namespace Go.Sx
open Go.Proofs
attribute [local irreducible] HLe
attribute [local simp] hps_app

def regE0 (r : Reg) : Int := if r.valid = true then 0 else 90
noncomputable abbrev regS : PSpec := mkP regE (fun r => r.kinds.length ≤ 9223372036854775807 ∧ r.parts.length ≤ 9223372036854775807 ∧ r.orders.length ≤ 9223372036854775807) fun r => .int .i64 (regE0 r)
noncomputable abbrev E56 : Env := { P := Tryd.prog, fn := tbl [(28, .pure withinS)], own := [], key := 5600, nt := 119 }
theorem b56 : PureBody E56 [] Tryd.f56 regS := by
  refine pb ?_
  rintro r ⟨b1, b2, b3⟩
  by_cases c1 : r.kinds.length ≤ 6
  case neg =>
    have d1 : (6 : Int) < r.kinds.length := by omega
    have hv : regE0 r = 90 := by simp [regE0, Reg.valid, c1]
    simp -dsimp [Tryd.f56, E56, Reg.row]
    repeat' (first | omega | (simp -dsimp [E56, ri, cellp, ints, b1, b2, b3, d1, hv]) | (refine Also.intro ?_ fun _ => ?_) | (refine Hold.intro fun _ => ?_) | (refine And.intro ?_ ?_))
  have d1 : ¬ (6 : Int) < r.kinds.length := by omega
  by_cases c2 : r.parts.length ≤ 24
  case neg =>
    have d2 : (24 : Int) < r.parts.length := by omega
    have hv : regE0 r = 90 := by simp [regE0, Reg.valid, c2]
    simp -dsimp [Tryd.f56, E56, Reg.row]
    repeat' (first | omega | (simp -dsimp [E56, ri, cellp, ints, b1, b2, b3, d1, d2, hv]) | (refine Also.intro ?_ fun _ => ?_) | (refine Hold.intro fun _ => ?_) | (refine And.intro ?_ ?_))
  have d2 : ¬ (24 : Int) < r.parts.length := by omega
  by_cases c3 : r.orders.length ≤ 6
  case neg =>
    have d3 : (6 : Int) < r.orders.length := by omega
    have hv : regE0 r = 90 := by simp [regE0, Reg.valid, c3]
    simp -dsimp [Tryd.f56, E56, Reg.row]
    repeat' (first | omega | (simp -dsimp [E56, ri, cellp, ints, b1, b2, b3, d1, d2, d3, hv]) | (refine Also.intro ?_ fun _ => ?_) | (refine Hold.intro fun _ => ?_) | (refine And.intro ?_ ?_))
  have d3 : ¬ (6 : Int) < r.orders.length := by omega
  cases c4 : withinB r.machines 0 4
  · have hv : regE0 r = 90 := by simp [regE0, Reg.valid, c4]
    simp -dsimp [Tryd.f56, E56, Reg.row]
    repeat' (first | omega | (simp -dsimp [E56, ri, cellp, ints, b1, b2, b3, d1, d2, d3, c4, hv]) | (refine Also.intro ?_ fun _ => ?_) | (refine Hold.intro fun _ => ?_) | (refine And.intro ?_ ?_))
  have hval : r.valid = (!r.kinds.any Kd.bad && (!r.parts.any r.badP && !r.orders.any r.badO)) := by simp [Reg.valid, c1, c2, c3, c4]
  simp -dsimp [Tryd.f56, E56, Reg.row]
  repeat' (first | omega | (simp -dsimp [E56, ri, cellp, ints, b1, b2, b3, d1, d2, d3, c4]) | (refine Also.intro ?_ fun _ => ?_) | (refine Hold.intro fun _ => ?_) | (refine And.intro ?_ ?_))
  refine awp_loop [30, 31, 32, 33, 34, 37, 38, 39, 40, 41, 4, 42, 43, 44, 45, 46, 47, 48, 49, 50, 51, 52, 53, 54, 55, 56, 57, 2, 35, 36, 3] (fun k : { k : Nat // k ≤ r.kinds.length ∧ ∀ j (h : j < r.kinds.length), j < k → r.kinds[j].bad = false } => [(3, (true, .int .i64 (k.1 : Nat)))])
    (fun k => hps [(5601, { base := 0, blks := [{ z := 4, els := [[.sl 3 (r.kinds.map Kd.row), .sl 4 (r.parts.map Pt.row), .int .i64 r.machines, .sl 2 (r.orders.map Od.row)]], ty := 43 }] }), (5604, { base := k.1, blks := [] })] noH) (fun k => r.kinds.length - k.1) ⟨0, by omega, fun _ _ h => by omega⟩ ?_ ?_ ?_
  · simp [okAll, okv]
  · exact (by (try simp -dsimp only [hpush_noH, hpush_hps, hps_over]); refine hle_hps ?_; simp -dsimp [allK, ]; repeat' (first | (refine And.intro ?_ ?_) | (refine sLe.same ?_ ?_ <;> (simp; done)) | (refine sLe.clear ?_ ?_ <;> (first | (simp; done) | (simp; omega))) | (refine sLe.drop 1 ?_ ?_ ?_ <;> (simp; done))))
  rintro ⟨k, hk, hall⟩
  simp only
  by_cases hk1 : k < r.kinds.length
  · have hki : (k : Int) < r.kinds.length := by omega
    have wk : IntKind.wrap .i64 ((k : Int) + 1) = (k + 1 : Nat) := wrap_id (by omega) (by omega)
    obtain ⟨kd, hkd, hkd'⟩ := get_ex hk1
    have hbd : kd.bad = (!withinB kd.hours 1 100000 || !withinB kd.cycles 1 100000 || !withinB kd.places 0 4) := rfl
    cases hb : kd.bad
    · rw [hb] at hbd
      have hq : withinB kd.hours 1 100000 = true ∧ withinB kd.cycles 1 100000 = true ∧ withinB kd.places 0 4 = true := by
        have := hbd.symm
        simp only [Bool.or_eq_false_iff, Bool.not_eq_false'] at this
        exact ⟨this.1.1, this.1.2, this.2⟩
      obtain ⟨q1, q2, q3⟩ := hq
      clear hbd
      simp -dsimp [hki]
      repeat' (first | omega | (simp -dsimp [E56, ri, cellp, ints, hki, hk1, hkd, hkd', wk, Kd.row, q1, q2, q3]) | (refine Also.intro ?_ fun _ => ?_) | (refine Hold.intro fun _ => ?_) | (refine And.intro ?_ ?_))
      refine ⟨k + 1, tle_chain rfl ?_, (by (try simp -dsimp only [hpush_noH, hpush_hps, hps_over]); refine hle_hps ?_; simp -dsimp [allK, ]; repeat' (first | (refine And.intro ?_ ?_) | (refine sLe.same ?_ ?_ <;> (simp; done)) | (refine sLe.clear ?_ ?_ <;> (first | (simp; done) | (simp; omega))) | (refine sLe.drop 1 ?_ ?_ ?_ <;> (simp; done)))), ⟨by omega, fun j h hj => ?_⟩, by omega⟩
      · simp [okAll, okv]
      · by_cases hjk : j = k
        · subst hjk; rw [hkd', hb]
        · exact hall j h (by omega)
    · have hany : r.kinds.any Kd.bad = true := List.any_eq_true.2 ⟨kd, hkd' ▸ List.getElem_mem hk1, hb⟩
      have hv : regE0 r = 90 := by simp [regE0, hval, hany]
      rw [hb] at hbd
      cases q1 : withinB kd.hours 1 100000
      · simp -dsimp [hki]
        repeat' (first | omega | (simp -dsimp [E56, ri, cellp, ints, hki, hk1, hkd, hkd', wk, Kd.row, q1, hv]) | (refine Also.intro ?_ fun _ => ?_) | (refine Hold.intro fun _ => ?_) | (refine And.intro ?_ ?_))
      cases q2 : withinB kd.cycles 1 100000
      · simp -dsimp [hki]
        repeat' (first | omega | (simp -dsimp [E56, ri, cellp, ints, hki, hk1, hkd, hkd', wk, Kd.row, q1, q2, hv]) | (refine Also.intro ?_ fun _ => ?_) | (refine Hold.intro fun _ => ?_) | (refine And.intro ?_ ?_))
      cases q3 : withinB kd.places 0 4
      · simp -dsimp [hki]
        repeat' (first | omega | (simp -dsimp [E56, ri, cellp, ints, hki, hk1, hkd, hkd', wk, Kd.row, q1, q2, q3, hv]) | (refine Also.intro ?_ fun _ => ?_) | (refine Hold.intro fun _ => ?_) | (refine And.intro ?_ ?_))
      · rw [q1, q2, q3] at hbd; simp at hbd
  have hkn : ¬ (k : Int) < r.kinds.length := by omega
  have hany : r.kinds.any Kd.bad = false := by
    rw [List.any_eq_false]
    intro x hx
    obtain ⟨j, hj, rfl⟩ := List.mem_iff_getElem.1 hx
    rw [hall j hj (by omega)]; simp
  have hke : k = r.kinds.length := by omega
  subst hke
  simp -dsimp [hkn]
  repeat' (first | omega | (simp -dsimp [E56, ri, cellp, ints, hkn]) | (refine Also.intro ?_ fun _ => ?_) | (refine Hold.intro fun _ => ?_) | (refine And.intro ?_ ?_))
  clear hall hk hkn hk1
  refine awp_loop [58, 59, 60, 61, 62, 65, 66, 67, 68, 69, 6, 70, 71, 72, 73, 74, 75, 76, 77, 78, 79, 80, 81, 82, 83, 84, 85, 86, 87, 88, 89, 2, 63, 64, 5] (fun k : { k : Nat // k ≤ r.parts.length ∧ ∀ j (h : j < r.parts.length), j < k → r.badP r.parts[j] = false } => [(5, (true, .int .i64 (k.1 : Nat)))])
    (fun k => hps [(5601, { base := 0, blks := [{ z := 4, els := [[.sl 3 (r.kinds.map Kd.row), .sl 4 (r.parts.map Pt.row), .int .i64 r.machines, .sl 2 (r.orders.map Od.row)]], ty := 43 }] }), (5606, { base := k.1, blks := [] }), (5604, { base := r.kinds.length, blks := [] })] noH) (fun k => r.parts.length - k.1) ⟨0, by omega, fun _ _ h => by omega⟩ ?_ ?_ ?_
  · simp [okAll, okv]
  · exact (by (try simp -dsimp only [hpush_noH, hpush_hps, hps_over]); refine hle_hps ?_; simp -dsimp [allK, ]; repeat' (first | (refine And.intro ?_ ?_) | (refine sLe.same ?_ ?_ <;> (simp; done)) | (refine sLe.clear ?_ ?_ <;> (first | (simp; done) | (simp; omega))) | (refine sLe.drop 1 ?_ ?_ ?_ <;> (simp; done))))
  rintro ⟨k, hk, hall⟩
  simp only
  by_cases hk1 : k < r.parts.length
  · have hki : (k : Int) < r.parts.length := by omega
    have wk : IntKind.wrap .i64 ((k : Int) + 1) = (k + 1 : Nat) := wrap_id (by omega) (by omega)
    obtain ⟨p, hp, hp'⟩ := get_ex hk1
    have hbd : r.badP p = (!withinB p.kind 0 (IntKind.wrap .i64 ((r.kinds.length : Int) - 1)) || !withinB p.hours 0 100000 || !withinB p.cycles 0 100000) := rfl
    cases hb : r.badP p
    · rw [hb] at hbd
      have hq : withinB p.kind 0 (IntKind.wrap .i64 ((r.kinds.length : Int) - 1)) = true ∧ withinB p.hours 0 100000 = true ∧ withinB p.cycles 0 100000 = true := by
        have := hbd.symm
        simp only [Bool.or_eq_false_iff, Bool.not_eq_false'] at this
        exact ⟨this.1.1, this.1.2, this.2⟩
      obtain ⟨q1, q2, q3⟩ := hq
      clear hbd
      simp -dsimp [hki]
      repeat' (first | omega | (simp -dsimp [E56, ri, cellp, ints, hki, hk1, hp, hp', wk, Pt.row, q1, q2, q3]) | (refine Also.intro ?_ fun _ => ?_) | (refine Hold.intro fun _ => ?_) | (refine And.intro ?_ ?_))
      refine ⟨k + 1, tle_chain rfl ?_, (by (try simp -dsimp only [hpush_noH, hpush_hps, hps_over]); refine hle_hps ?_; simp -dsimp [allK, ]; repeat' (first | (refine And.intro ?_ ?_) | (refine sLe.same ?_ ?_ <;> (simp; done)) | (refine sLe.clear ?_ ?_ <;> (first | (simp; done) | (simp; omega))) | (refine sLe.drop 1 ?_ ?_ ?_ <;> (simp; done)))), ⟨by omega, fun j h hj => ?_⟩, by omega⟩
      · simp [okAll, okv]
      · by_cases hjk : j = k
        · subst hjk; rw [hp', hb]
        · exact hall j h (by omega)
    · have hany2 : r.parts.any r.badP = true := List.any_eq_true.2 ⟨p, hp' ▸ List.getElem_mem hk1, hb⟩
      have hv : regE0 r = 90 := by simp [regE0, hval, hany2]
      rw [hb] at hbd
      cases q1 : withinB p.kind 0 (IntKind.wrap .i64 ((r.kinds.length : Int) - 1))
      · simp -dsimp [hki]
        repeat' (first | omega | (simp -dsimp [E56, ri, cellp, ints, hki, hk1, hp, hp', wk, Pt.row, q1, hv]) | (refine Also.intro ?_ fun _ => ?_) | (refine Hold.intro fun _ => ?_) | (refine And.intro ?_ ?_))
      cases q2 : withinB p.hours 0 100000
      · simp -dsimp [hki]
        repeat' (first | omega | (simp -dsimp [E56, ri, cellp, ints, hki, hk1, hp, hp', wk, Pt.row, q1, q2, hv]) | (refine Also.intro ?_ fun _ => ?_) | (refine Hold.intro fun _ => ?_) | (refine And.intro ?_ ?_))
      cases q3 : withinB p.cycles 0 100000
      · simp -dsimp [hki]
        repeat' (first | omega | (simp -dsimp [E56, ri, cellp, ints, hki, hk1, hp, hp', wk, Pt.row, q1, q2, q3, hv]) | (refine Also.intro ?_ fun _ => ?_) | (refine Hold.intro fun _ => ?_) | (refine And.intro ?_ ?_))
      · rw [q1, q2, q3] at hbd; simp at hbd
  have hkn : ¬ (k : Int) < r.parts.length := by omega
  have hany2 : r.parts.any r.badP = false := by
    rw [List.any_eq_false]
    intro x hx
    obtain ⟨j, hj, rfl⟩ := List.mem_iff_getElem.1 hx
    rw [hall j hj (by omega)]; simp
  have hke : k = r.parts.length := by omega
  subst hke
  simp -dsimp [hkn]
  repeat' (first | omega | (simp -dsimp [E56, ri, cellp, ints, hkn]) | (refine Also.intro ?_ fun _ => ?_) | (refine Hold.intro fun _ => ?_) | (refine And.intro ?_ ?_))
  clear hall hk hkn hk1
  refine awp_loop [90, 91, 92, 93, 94, 97, 98, 99, 100, 101, 102, 103, 104, 105, 106, 107, 108, 109, 110, 111, 112, 113, 114, 115, 116, 117, 118, 2, 95, 96, 7] (fun k : { k : Nat // k ≤ r.orders.length ∧ ∀ j (h : j < r.orders.length), j < k → r.badO r.orders[j] = false } => [(7, (true, .int .i64 (k.1 : Nat)))])
    (fun k => hps [(5601, { base := 0, blks := [{ z := 4, els := [[.sl 3 (r.kinds.map Kd.row), .sl 4 (r.parts.map Pt.row), .int .i64 r.machines, .sl 2 (r.orders.map Od.row)]], ty := 43 }] }), (5606, { base := r.parts.length, blks := [] }), (5604, { base := r.kinds.length, blks := [] })] noH) (fun k => r.orders.length - k.1) ⟨0, by omega, fun _ _ h => by omega⟩ ?_ ?_ ?_
  · simp [okAll, okv]
  · exact (by (try simp -dsimp only [hpush_noH, hpush_hps, hps_over]); refine hle_hps ?_; simp -dsimp [allK, ]; repeat' (first | (refine And.intro ?_ ?_) | (refine sLe.same ?_ ?_ <;> (simp; done)) | (refine sLe.clear ?_ ?_ <;> (first | (simp; done) | (simp; omega))) | (refine sLe.drop 1 ?_ ?_ ?_ <;> (simp; done))))
  rintro ⟨k, hk, hall⟩
  simp only
  by_cases hk1 : k < r.orders.length
  · have hki : (k : Int) < r.orders.length := by omega
    have wk : IntKind.wrap .i64 ((k : Int) + 1) = (k + 1 : Nat) := wrap_id (by omega) (by omega)
    obtain ⟨p, hp, hp'⟩ := get_ex hk1
    have hbd : r.badO p = (!withinB p.kind 0 (IntKind.wrap .i64 ((r.kinds.length : Int) - 1)) || !withinB p.within 0 100000) := rfl
    cases hb : r.badO p
    · rw [hb] at hbd
      have hq : withinB p.kind 0 (IntKind.wrap .i64 ((r.kinds.length : Int) - 1)) = true ∧ withinB p.within 0 100000 = true := by
        have := hbd.symm
        simp only [Bool.or_eq_false_iff, Bool.not_eq_false'] at this
        exact this
      obtain ⟨q1, q2⟩ := hq
      clear hbd
      simp -dsimp [hki]
      repeat' (first | omega | (simp -dsimp [E56, ri, cellp, ints, hki, hk1, hp, hp', wk, Od.row, q1, q2]) | (refine Also.intro ?_ fun _ => ?_) | (refine Hold.intro fun _ => ?_) | (refine And.intro ?_ ?_))
      refine ⟨k + 1, tle_chain rfl ?_, (by (try simp -dsimp only [hpush_noH, hpush_hps, hps_over]); refine hle_hps ?_; simp -dsimp [allK, ]; repeat' (first | (refine And.intro ?_ ?_) | (refine sLe.same ?_ ?_ <;> (simp; done)) | (refine sLe.clear ?_ ?_ <;> (first | (simp; done) | (simp; omega))) | (refine sLe.drop 1 ?_ ?_ ?_ <;> (simp; done)))), ⟨by omega, fun j h hj => ?_⟩, by omega⟩
      · simp [okAll, okv]
      · by_cases hjk : j = k
        · subst hjk; rw [hp', hb]
        · exact hall j h (by omega)
    · have hany3 : r.orders.any r.badO = true := List.any_eq_true.2 ⟨p, hp' ▸ List.getElem_mem hk1, hb⟩
      have hv : regE0 r = 90 := by simp [regE0, hval, hany3]
      rw [hb] at hbd
      cases q1 : withinB p.kind 0 (IntKind.wrap .i64 ((r.kinds.length : Int) - 1))
      · simp -dsimp [hki]
        repeat' (first | omega | (simp -dsimp [E56, ri, cellp, ints, hki, hk1, hp, hp', wk, Od.row, q1, hv]) | (refine Also.intro ?_ fun _ => ?_) | (refine Hold.intro fun _ => ?_) | (refine And.intro ?_ ?_))
      cases q2 : withinB p.within 0 100000
      · simp -dsimp [hki]
        repeat' (first | omega | (simp -dsimp [E56, ri, cellp, ints, hki, hk1, hp, hp', wk, Od.row, q1, q2, hv]) | (refine Also.intro ?_ fun _ => ?_) | (refine Hold.intro fun _ => ?_) | (refine And.intro ?_ ?_))
      · rw [q1, q2] at hbd; simp at hbd
  have hkn : ¬ (k : Int) < r.orders.length := by omega
  have hany3 : r.orders.any r.badO = false := by
    rw [List.any_eq_false]
    intro x hx
    obtain ⟨j, hj, rfl⟩ := List.mem_iff_getElem.1 hx
    rw [hall j hj (by omega)]; simp
  have hv : regE0 r = 0 := by simp [regE0, hval, hany, hany2, hany3]
  simp -dsimp [hkn]
  repeat' (first | omega | (simp -dsimp [E56, ri, cellp, ints, hkn, hv]) | (refine Also.intro ?_ fun _ => ?_) | (refine Hold.intro fun _ => ?_) | (refine And.intro ?_ ?_))
theorem ok56 : FnOK Tryd.prog 56 (.pure regS) := pure_fn (E := E56) rfl (.cons ok28 .nil) (ok := []) (fn := Tryd.f56) (by kernel_rfl) (by kernel_rfl) (by kernel_rfl) (by kernel_rfl) rfl (fun _ _ => by simp) b56
end Go.Sx
end
