/- A part of a proof; no conditions. -/
import Derived.Test.YtnpdjaikmdagmaaGreatDoorP22
import Derived.Test.YtnpdjaikmdagmaaGreatDoorP23
set_option linter.unusedSimpArgs false
set_option linter.unusedVariables false
set_option linter.unusedSectionVars false
section
/- Parts: Suspects. No conditions. -/
set_option linter.unusedSimpArgs false
set_option linter.unusedSectionVars false
set_option maxRecDepth 100000
set_option maxHeartbeats 4000000
namespace Go.Sx
open Go.Proofs
attribute [local irreducible] HLe
attribute [local simp] hps_app

structure SuD where
  r : Reg
  l : List Wk
  m : Int
  pl : List (Int × Int)
  ch : List (Int × Int)
  deriving Inhabited
@[simp] def suE (d : SuD) : List V := [.agg d.r.row, .sl 4 (d.l.map Wk.row), .int .i64 d.m, .sl 2 (d.pl.map cycV), .sl 2 (d.ch.map cycV)]
theorem suE_inj (a b : SuD) (h : suE a = suE b) : a = b := by
  obtain ⟨r, l, m, p, c⟩ := a; obtain ⟨r', l', m', p', c'⟩ := b
  simp only [suE, List.cons.injEq, V.agg.injEq, V.sl.injEq, V.int.injEq, true_and, and_true] at h
  rw [Reg.row_inj _ _ h.1, map_inj Wk.row_inj h.2.1, h.2.2.1, cycV_inj h.2.2.2.1, cycV_inj h.2.2.2.2]
theorem suE_dec' (r : Reg) (l : List Wk) (m : Int) (p c : List (Int × Int)) : decC suE [.agg [.sl 3 (r.kinds.map Kd.row), .sl 4 (r.parts.map Pt.row), .int .i64 r.machines, .sl 2 (r.orders.map Od.row)], .sl 4 (l.map Wk.row), .int .i64 m, .sl 2 (p.map cycV), .sl 2 (c.map cycV)] = ⟨r, l, m, p, c⟩ := decC_eq suE_inj ⟨r, l, m, p, c⟩
structure SuP (d : SuD) : Prop where
  f : RL.Fine ⟨d.r, d.l⟩
  p : d.pl.length ≤ 9223372036854775807
  c : d.ch.length ≤ 9223372036854775807
/-- The parts at the places of some gears. -/
def HI.suOut (x : HI) (m : Int) (pl : List (Int × Int)) (w : List Int) : List Int := (w.map fun g => x.at (pl.getD g.toNat (0, 0)).1 m (pl.getD g.toNat (0, 0)).2).filter fun n => decide (0 ≤ n)
def suSet (l : List Int) : List Int := cpTo (srtZ l) (srtZ l).length
def HI.suBad (x : HI) (m : Int) (pl : List (Int × Int)) : Bool := !x.machine m || (!withinB pl.length 1 12 || pl.any x.badPl)
def suEr (r : Reg) (l : List Wk) (m : Int) (pl ch : List (Int × Int)) : Int := if opE r l = 0 then (if (opH r l).i.suBad m pl = true then 1 else if (explR 8 pl.length ch).2.2 = 0 then 0 else 1) else opE r l
def suRe (r : Reg) (l : List Wk) (m : Int) (pl ch : List (Int × Int)) : List Int := if suEr r l m pl ch = 0 then suSet ((opH r l).i.suOut m pl (explR 8 pl.length ch).2.1) else []
noncomputable abbrev suS : PSpec := mkP suE SuP fun d => .tup [ints (suRe d.r d.l d.m d.pl d.ch), .int .i64 (suEr d.r d.l d.m d.pl d.ch)]
theorem HI.suOut_succ (x : HI) (m : Int) (pl : List (Int × Int)) {w : List Int} {k : Nat} {g : Int} (hg : w[k]? = some g) :
    x.suOut m pl (w.take (k + 1)) = x.suOut m pl (w.take k) ++ if 0 ≤ x.at (pl.getD g.toNat (0, 0)).1 m (pl.getD g.toNat (0, 0)).2 then [x.at (pl.getD g.toNat (0, 0)).1 m (pl.getD g.toNat (0, 0)).2] else [] := by
  unfold HI.suOut
  rw [List.take_add_one, hg, List.map_append, List.filter_append]
  congr 1
  simp only [Option.toList, List.map_cons, List.map_nil, List.filter_cons, List.filter_nil, decide_eq_true_eq]
theorem HI.suOut_len (x : HI) (m : Int) (pl : List (Int × Int)) (w : List Int) : (x.suOut m pl w).length ≤ w.length := by
  have := List.length_filter_le (fun n => decide ((0 : Int) ≤ n)) (w.map fun g => x.at (pl.getD g.toNat (0, 0)).1 m (pl.getD g.toNat (0, 0)).2)
  rwa [List.length_map] at this
theorem sgL_dec' (x : HI) (l : List (Int × Int)) : decC sgL [.sl 2 (l.map cycV), .fn 19 [.ip 1 [[.ip 9 [[.sl 3 (x.r.kinds.map Kd.row), .sl 4 (x.r.parts.map Pt.row), .int .i64 x.r.machines, .sl 2 (x.r.orders.map Od.row), ptsI x.ps, .sl 1 (x.iss.map rb), x.v1, x.v2, x.v3]] 0 0]] 0 0]] = ⟨x, l⟩ := sgL_dec x l
noncomputable abbrev E7 : Env := { P := Tryz.prog, fn := tbl [(23, .pure ExplainS), (18, .pure openS), (19, .pure sgS), (20, .pure withinS), (21, .pure machineS), (22, .pure sgaS), (24, .pure haS), (25, .heap srt0S), (26, .heap cpcS)], own := [], key := 700, nt := 87 }
theorem b7 : PureBody E7 [] Tryz.f7 suS := by
  refine pb ?_
  rintro ⟨r, l, m, pl, ch⟩ ⟨hfn, hpl, hch⟩
  simp only at hfn hpl hch
  by_cases hE : opE r l = 0
  case neg =>
    have hR : suEr r l m pl ch = opE r l := by simp [suEr, hE]
    have hR2 : suRe r l m pl ch = [] := by simp [suRe, hR, hE]
    simp -dsimp [Tryz.f7, E7, Reg.row]
    repeat' (first | omega | (simp -dsimp [E7, ri, cellp, ints, rlE_dec', Reg.row, hfn, hE, hR, hR2]) | (refine Also.intro ?_ fun _ => ?_) | (refine Hold.intro fun _ => ?_) | (refine And.intro ?_ ?_))
  have hI := (opE_inv hE).2.2.2
  have hlen : (opH r l).i.ps.length ≤ 1000 := (opE_ok hE).ps
  have hkl : (opH r l).i.r.kinds.length ≤ 6 := by
    show (opH r l).r.kinds.length ≤ 6
    rw [hI.rg]; exact (valid_facts hI.val).1
  have hkl' : (opH r l).i.r.kinds.length ≤ 9223372036854775807 := by omega
  have hlen' : (opH r l).i.ps.length ≤ 9223372036854775807 := by omega
  have hsg : SgP ⟨(opH r l).i, pl⟩ := ⟨hkl', hpl⟩
  have hEr : suEr r l m pl ch = if (opH r l).i.suBad m pl = true then 1 else if (explR 8 pl.length ch).2.2 = 0 then 0 else 1 := by simp [suEr, hE]
  have hRe : suRe r l m pl ch = if suEr r l m pl ch = 0 then suSet ((opH r l).i.suOut m pl (explR 8 pl.length ch).2.1) else [] := rfl
  generalize hs : (opH r l).i = s at *
  cases hm : s.machine m
  · have hb : s.suBad m pl = true := by simp [HI.suBad, hm]
    rw [if_pos hb] at hEr
    rw [hEr, if_neg (by decide)] at hRe
    simp -dsimp [Tryz.f7, E7, Reg.row]
    repeat' (first | omega | (simp -dsimp [E7, ri, cellp, ints, rlE_dec', Reg.row, hfn, hE, hs, HI.v, hiE_dec', hm, hEr, hRe]) | (refine Also.intro ?_ fun _ => ?_) | (refine Hold.intro fun _ => ?_) | (refine And.intro ?_ ?_))
  cases hw : withinB pl.length 1 12
  · have hb : s.suBad m pl = true := by simp [HI.suBad, hw]
    rw [if_pos hb] at hEr
    rw [hEr, if_neg (by decide)] at hRe
    simp -dsimp [Tryz.f7, E7, Reg.row]
    repeat' (first | omega | (simp -dsimp [E7, ri, cellp, ints, rlE_dec', Reg.row, hfn, hE, hs, HI.v, hiE_dec', hm, hw, hEr, hRe]) | (refine Also.intro ?_ fun _ => ?_) | (refine Hold.intro fun _ => ?_) | (refine And.intro ?_ ?_))
  cases hy : pl.any s.badPl
  case true =>
    have hb : s.suBad m pl = true := by simp [HI.suBad, hy]
    rw [if_pos hb] at hEr
    rw [hEr, if_neg (by decide)] at hRe
    simp -dsimp [Tryz.f7, E7, Reg.row]
    repeat' (first | omega | (simp -dsimp [E7, ri, cellp, ints, rlE_dec', Reg.row, hfn, hE, hs, HI.v, hiC, hiE_dec', hm, hw, hy, sgL_dec', hsg, hEr, hRe]) | (refine Also.intro ?_ fun _ => ?_) | (refine Hold.intro fun _ => ?_) | (refine And.intro ?_ ?_))
  have hb : ¬ s.suBad m pl = true := by simp [HI.suBad, hm, hw, hy]
  rw [if_neg hb] at hEr
  by_cases hx : (explR 8 pl.length ch).2.2 = 0
  case neg =>
    rw [if_neg hx] at hEr
    rw [hEr, if_neg (by decide)] at hRe
    simp -dsimp [Tryz.f7, E7, Reg.row]
    repeat' (first | omega | (simp -dsimp [E7, ri, cellp, ints, rlE_dec', Reg.row, hfn, hE, hs, HI.v, hiC, hiE_dec', hm, hw, hy, sgL_dec', hsg, hpl, hch, hx, hEr, hRe]) | (refine Also.intro ?_ fun _ => ?_) | (refine Hold.intro fun _ => ?_) | (refine And.intro ?_ ?_))
  rw [if_pos hx] at hEr
  rw [hEr, if_pos rfl] at hRe
  have hwl : (explR 8 pl.length ch).2.1.length ≤ pl.length := expl_len (S := 8)
  have hwg : ∀ g ∈ (explR 8 pl.length ch).2.1, 0 ≤ g ∧ g < pl.length := expl_worn (S := 8)
  have hp12 : pl.length ≤ 12 := by
    have : 1 ≤ (pl.length : Int) ∧ (pl.length : Int) ≤ 12 := by simpa [withinB] using hw
    omega
  simp -dsimp [Tryz.f7, E7, Reg.row]
  repeat' (first | omega | (simp -dsimp [E7, ri, cellp, ints, rlE_dec', Reg.row, hfn, hE, hs, HI.v, hiC, hiE_dec', hm, hw, hy, sgL_dec', hsg, hpl, hch, hx]) | (refine Also.intro ?_ fun _ => ?_) | (refine Hold.intro fun _ => ?_) | (refine And.intro ?_ ?_))
  generalize (explR 8 pl.length ch).2.1 = wo at *
  have hwo : wo.length ≤ 12 := by omega
  clear hb hx
  refine awp_loop_g [(10, 781, 1, 3)] rfl (by simp) [59, 60, 61, 18, 62, 63, 64, 65, 66, 67, 68, 69, 70, 71, 72, 73, 74, 75, 19, 76, 77, 78, 79, 80, 81, 10, 82, 58] (fun k : Fin (wo.length + 1) => [(58, (true, .int .i64 (k.1 : Nat))), (10, (true, .bsl 781 0 (s.suOut m pl (wo.take k.1)).length))])
    (fun k => hps [(781, { base := 0, blks := [{ z := 1, els := (s.suOut m pl (wo.take k.1)).map ri, ty := 3 }] }), (712, { base := 0, blks := [{ z := 1, els := [[.ip 9 [[.sl 3 (s.r.kinds.map Kd.row), .sl 4 (s.r.parts.map Pt.row), .int .i64 s.r.machines, .sl 2 (s.r.orders.map Od.row), ptsI s.ps, .sl 1 (s.iss.map rb), s.v1, s.v2, s.v3]] 0 0]], ty := 66 }] }), (705, { base := 0, blks := [{ z := 4, els := [[.sl 3 (r.kinds.map Kd.row), .sl 4 (r.parts.map Pt.row), .int .i64 r.machines, .sl 2 (r.orders.map Od.row)]], ty := 26 }] })] noH) (fun k => wo.length - k.1) ⟨0, by omega⟩ ?_ ?_ ?_
  · simp [okAll, okv, HI.suOut]
  · exact (by (try simp -dsimp only [hpush_noH, hpush_hps, hps_over]); refine hle_hps ?_; simp -dsimp [allK, HI.suOut]; repeat' (first | (refine And.intro ?_ ?_) | (refine sLe.same ?_ ?_ <;> (simp; done)) | (refine sLe.clear ?_ ?_ <;> (first | (simp; done) | (simp; omega))) | (refine sLe.drop 1 ?_ ?_ ?_ <;> (simp; done))))
  rintro ⟨k, hk⟩
  simp only
  by_cases hk1 : k < wo.length
  · have hki : ((k : Int) < wo.length) = True := eq_true (by omega)
    have wk : IntKind.wrap .i64 ((k : Int) + 1) = (k + 1 : Nat) := wrap_id (by omega) (by omega)
    obtain ⟨g, hg, hg'⟩ := get_ex hk1
    obtain ⟨q1, q2⟩ := hwg g (by rw [← hg']; exact List.getElem_mem hk1)
    obtain ⟨G, rfl⟩ : ∃ G : Nat, g = G := ⟨g.toNat, by omega⟩
    have hGl : G < pl.length := by omega
    have hGi : ((G : Int) < pl.length) = True := eq_true (by omega)
    obtain ⟨⟨x, y⟩, hG, hG'⟩ := get_ex hGl
    have hT := s.suOut_succ m pl hg
    have hGd : pl.getD (G : Int).toNat (0, 0) = (x, y) := by simp [List.getD, hG]
    rw [hGd] at hT
    simp only at hT
    have hTl : (s.suOut m pl (wo.take k)).length ≤ 12 := by have := s.suOut_len m pl (wo.take k); rw [List.length_take] at this; omega
    generalize s.suOut m pl (wo.take k) = T at *
    have hb8 : (T.length + 1) * 8 ≤ 140737488355328 := by omega
    by_cases h0 : 0 ≤ s.at x m y
    · rw [if_pos h0] at hT
      simp -dsimp [hki]
      repeat' (first | omega | (simp -dsimp [E7, ri, cellp, ints, hki, hk1, hg, hg', wk, hGl, hGi, hG, hG', cycV, HI.v, haE_dec', hlen', h0, hb8]) | (refine Also.intro ?_ fun _ => ?_) | (refine Hold.intro fun _ => ?_) | (refine And.intro ?_ ?_))
      refine ⟨⟨k + 1, by omega⟩, tle_chain rfl ?_, (by (try simp -dsimp only [hpush_noH, hpush_hps, hps_over]); refine hle_hps ?_; simp -dsimp [allK, hT, ri]; repeat' (first | (refine And.intro ?_ ?_) | (refine sLe.same ?_ ?_ <;> (simp; done)) | (refine sLe.clear ?_ ?_ <;> (first | (simp; done) | (simp; omega))) | (refine sLe.drop 1 ?_ ?_ ?_ <;> (simp; done)))), by simp only; omega⟩
      simp [okAll, okv, hT]
    · rw [if_neg h0, List.append_nil] at hT
      have h0' : (0 ≤ s.at x m y) = False := eq_false h0
      simp -dsimp [hki]
      repeat' (first | omega | (simp -dsimp [E7, ri, cellp, ints, hki, hk1, hg, hg', wk, hGl, hGi, hG, hG', cycV, HI.v, haE_dec', hlen', h0', hb8]) | (refine Also.intro ?_ fun _ => ?_) | (refine Hold.intro fun _ => ?_) | (refine And.intro ?_ ?_))
      refine ⟨⟨k + 1, by omega⟩, tle_chain rfl ?_, (by (try simp -dsimp only [hpush_noH, hpush_hps, hps_over]); refine hle_hps ?_; simp -dsimp [allK, hT, ri]; repeat' (first | (refine And.intro ?_ ?_) | (refine sLe.same ?_ ?_ <;> (simp; done)) | (refine sLe.clear ?_ ?_ <;> (first | (simp; done) | (simp; omega))) | (refine sLe.drop 1 ?_ ?_ ?_ <;> (simp; done)))), by simp only; omega⟩
      simp [okAll, okv, hT]
  have hkn : ((k : Int) < wo.length) = False := eq_false (by omega)
  have hke : k = wo.length := by omega
  subst hke
  rw [List.take_length]
  have hTl : (s.suOut m pl wo).length ≤ 12 := by have := s.suOut_len m pl wo; omega
  generalize s.suOut m pl wo = T at *
  have hS : ∀ h : Hp, hget h 781 0 = some { z := 1, els := T.map ri, ty := 3 } → srt0S.go [.bsl 781 0 T.length] h = ⟨True, .tup [], hset h 781 0 { z := 1, els := (srtZ T).map ri, ty := 3 }⟩ := fun h hB => srt0_go hB (by omega)
  have hZl := srtZ_len T
  have hC : ∀ h : Hp, hget h 781 0 = some { z := 1, els := (srtZ T).map ri, ty := 3 } → cpcS.go [.bsl 781 0 T.length] h = ⟨True, cpcV 781 0 (srtZ T), hset h 781 0 { z := 1, els := (cpcL (srtZ T)).map ri, ty := 3 }⟩ := fun h hB => by
    rw [← hZl]; exact cpc_go hB (by omega) (by decide)
  have hRe' : suRe r l m pl ch = cpTo (srtZ T) (srtZ T).length := hRe
  generalize srtZ T = Z at *
  have hm1 := cpTo_len Z Z.length
  have hcL : (cpcL Z).map ri = (cpTo Z Z.length).map ri ++ List.replicate (Z.length - (cpTo Z Z.length).length) (ri 0) := by simp [cpcL]
  generalize hD : cpTo Z Z.length = D at *
  by_cases hDl : D.length = Z.length
  · have hV : cpcV 781 0 Z = .bsl 781 0 Z.length := by unfold cpcV; rw [hD, if_pos hDl]
    have hcL2 : (cpcL Z).map ri = D.map ri := by rw [hcL, hDl]; simp
    simp -dsimp [hkn]
    repeat' (first | omega | (simp -dsimp [E7, ri, cellp, ints, hkn, hS, hC, hV, hcL2, hRe', hEr, hDl, hZl]) | (refine Also.intro ?_ fun _ => ?_) | (refine Hold.intro fun _ => ?_) | (refine And.intro ?_ ?_))
  · have hV : cpcV 781 0 Z = .osl 781 0 Z.length 0 D.length Z.length := by unfold cpcV; rw [hD, if_neg hDl]
    have htk : ((cpcL Z).map ri).take D.length = D.map ri := by rw [hcL]; exact List.take_left' (by simp)
    have hcl : (cpcL Z).length = Z.length := by simp [cpcL, hD]; omega
    simp -dsimp [hkn]
    repeat' (first | omega | (simp -dsimp [E7, ri, cellp, ints, hkn, hS, hC, hV, htk, hcl, hRe', hEr, hZl]) | (refine Also.intro ?_ fun _ => ?_) | (refine Hold.intro fun _ => ?_) | (refine And.intro ?_ ?_))
theorem ok7 : FnOK Tryz.prog 7 (.pure suS) := pure_fn (E := E7) rfl (.cons ok23 (.cons ok18 (.cons ok19 (.cons ok20 (.cons ok21 (.cons ok22 (.cons ok24 (.cons ok25 (.cons ok26 .nil))))))))) (ok := []) (fn := Tryz.f7) (by kernel_rfl) (by kernel_rfl) (by kernel_rfl) (by kernel_rfl) rfl (fun _ _ => by simp) b7
end Go.Sx
end
section
/- Explain of the reference (health). No conditions. -/
set_option linter.unusedSimpArgs false
set_option linter.unusedSectionVars false
set_option maxRecDepth 100000
section
namespace Go.Sx
open Go.Proofs
noncomputable abbrev E114 : Env := { P := Tryz.prog, fn := tbl [], own := [], key := 11400, nt := 15 }
theorem b114 : PureBody E114 [] Tryz.f114 withinS := by
  refine pb ?_
  rintro ⟨n, lo, hi⟩ _
  simp -dsimp [Tryz.f114, E114, withinB]
  repeat' (first | omega | (simp -dsimp [E114, withinB, *]) | (refine Also.intro ?_ fun _ => ?_) | (refine Hold.intro fun _ => ?_) | (refine And.intro ?_ ?_))
theorem ok114 : FnOK Tryz.prog 114 (.pure withinS) := pure_fn (E := E114) rfl LOK.nil (ok := []) (fn := Tryz.f114) (by kernel_rfl) (by kernel_rfl) (by kernel_rfl) (by kernel_rfl) rfl (fun _ _ => by simp) b114
end Go.Sx
end
section
namespace Go.Sx
open Go.Proofs
theorem wornX_succ (ge set : Nat) (cells : List (Int × Int)) (k : Nat) : wornX ge set cells (k + 1) = wornX ge set cells k ++ if cells.any (cellHit set k) then [k] else [] := by
  simp only [wornX, List.range_succ, List.filter_append, List.filter_cons, List.filter_nil]
theorem wornX_not (ge set : Nat) (cells : List (Int × Int)) (k : Nat) : k ∉ wornX ge set cells k := by
  simp [wornX]
def better (x m : Ex1) : Bool := decide (szX x < szX m) || (decide (szX x = szX m) && decide (cmpX x m < 0))
theorem cmpX_self (x : Ex1) : cmpX x x = 0 := by
  have hz : ∀ a : Int, cmpZ a a = 0 := fun a => by simp [cmpZ]
  have : ∀ a, cmpL a a = 0 := by
    intro a
    induction a with
    | nil => rfl
    | cons x a ih => simp [cmpL, hz, ih]
  simp [cmpX, this]
theorem minTo_app (l r : List Ex1) (hl : 0 < l.length) : ∀ k, k ≤ l.length → minTe (l ++ r) k = minTe l k := by
  intro k
  induction k with
  | zero => intro _; simp [minTe, List.getD, List.getElem?_append_left hl]
  | succ k ih =>
    intro hk
    have hk1 : k < l.length := hk
    rw [minTe_succ, minTe_succ, ih (by omega), show (l ++ r).getD k ([], []) = l.getD k ([], []) by simp only [List.getD, List.getElem?_append_left hk1]]
theorem minX_snoc (l : List Ex1) (x : Ex1) (hl : 0 < l.length) : minX (l ++ [x]) = if cmpX x (minX l) < 0 then x else minX l := by
  unfold minX
  rw [List.length_append, List.length_singleton, minTe_succ, minTo_app l [x] hl _ (Nat.le_refl _)]
  simp [List.getD]
theorem minX_one (x : Ex1) : minX [x] = x := by
  unfold minX
  simp only [List.length_singleton]
  rw [minTe_succ]
  simp [minTe, List.getD, cmpX_self]
theorem expTo_size (b : List Nat) : ∀ k x, x ∈ expTo b k → ∀ y, y ∈ expTo b k → szX x = szX y := by
  intro k
  induction k with
  | zero => intro x hx; simp [expTo] at hx
  | succ k ih =>
    rw [expTo_succ, stepE_eq]
    cases ho : expTo b k with
    | nil => intro x hx y hy; simp only [List.mem_singleton] at hx hy; rw [hx, hy]
    | cons y0 out =>
      rw [ho] at ih
      simp only
      split
      · exact ih
      · split
        · intro x hx y hy; simp only [List.mem_singleton] at hx hy; rw [hx, hy]
        · have e : szX (exSo b k) = szX y0 := by omega
          have key : ∀ x, x ∈ (y0 :: out) ++ [exSo b k] → szX x = szX y0 := by
            intro x hx
            rcases List.mem_append.1 hx with hx | hx
            · exact ih x hx y0 (by simp)
            · simp only [List.mem_singleton] at hx; rw [hx, e]
          intro x hx y hy
          rw [key x hx, key y hy]
theorem minX_step (b : List Nat) (k : Nat) : minX (expTo b (k + 2)) = if better (exSo b (k + 1)) (minX (expTo b (k + 1))) then exSo b (k + 1) else minX (expTo b (k + 1)) := by
  have hp := expTo_pos b k
  have hsz := expTo_size b (k + 1)
  have hm := minX_mem hp
  rw [expTo_succ b (k + 1), stepE_eq]
  generalize expTo b (k + 1) = l at *
  cases l with
  | nil => simp at hp
  | cons y out =>
    simp only
    have e : szX (minX (y :: out)) = szX y := hsz _ hm _ (by simp)
    by_cases h1 : szX (exSo b (k + 1)) > szX y
    · rw [if_pos h1, if_neg]
      simp only [better, Bool.or_eq_true, Bool.and_eq_true, decide_eq_true_eq]
      omega
    · rw [if_neg h1]
      by_cases h2 : szX (exSo b (k + 1)) < szX y
      · rw [if_pos h2, if_pos, minX_one]
        simp only [better, Bool.or_eq_true, Bool.and_eq_true, decide_eq_true_eq]
        omega
      · rw [if_neg h2, minX_snoc _ _ (by simp)]
        have e2 : szX (exSo b (k + 1)) = szX (minX (y :: out)) := by omega
        have : better (exSo b (k + 1)) (minX (y :: out)) = decide (cmpX (exSo b (k + 1)) (minX (y :: out)) < 0) := by
          simp [better, e2]
        rw [this]
        simp only [decide_eq_true_eq]
theorem minX_first (b : List Nat) : minX (expTo b 1) = exSo b 0 := by
  rw [expTo_succ, stepE_eq]
  simp only [expTo, List.range_zero, List.foldl_nil]
  exact minX_one _
theorem mem_natI {l : List Nat} {n : Nat} : (n : Int) ∈ natI l ↔ n ∈ l := by
  unfold natI
  rw [List.mem_map]
  exact ⟨fun ⟨a, h, e⟩ => by rwa [← show a = n by omega], fun h => ⟨n, h, rfl⟩⟩
end Go.Sx
end
section
namespace Go.Sx
open Go.Proofs
set_option maxHeartbeats 1000000
theorem wrap_u {n : Int} (h0 : 0 ≤ n) (h1 : n ≤ 18446744073709551615) : IntKind.wrap .u64 n = n := by rw [IntKind.wrap_u64]; omega
abbrev hasS : PSpec := { dom := List Int × Int, enc := fun d => [ints d.1, .int .i64 d.2], dec := fun l => ((l.getD 0 .top).toInts, (l.getD 1 .top).toInt), pre := fun d => d.1.length ≤ 9223372036854775807, res := fun d => .bool (decide (d.2 ∈ d.1)) }
noncomputable abbrev E115 : Env := { P := Tryz.prog, fn := tbl [], own := [], key := 11500, nt := 18 }
theorem b115 : PureBody E115 [] Tryz.f115 hasS := by
  refine pb ?_
  rintro ⟨l, v⟩ hl
  simp only at hl
  simp -dsimp [Tryz.f115, E115, ints]
  refine awp_loop [6, 7, 8, 9, 12, 13, 14, 15, 16, 17, 4, 10, 11, 5] (fun k : { k : Nat // k ≤ l.length ∧ v ∉ l.take k } => [(5, (true, .int .i64 (k.1 : Nat)))]) (fun _ => noH) (fun k => l.length - k.1) ⟨0, by omega, by simp⟩ ?_ (HLe.refl _) ?_
  · simp [okAll, okv]
  rintro ⟨k, hk, hc⟩
  simp only
  by_cases hk1 : k < l.length
  case neg =>
    have hf : v ∉ l := by rw [List.take_of_length_le (by omega)] at hc; exact hc
    simp -dsimp [hk1]
    repeat' (first | omega | (simp -dsimp [E115, ri, cellp, ints, hk1, hf]) | (refine Also.intro ?_ fun _ => ?_) | (refine Hold.intro fun _ => ?_) | (refine And.intro ?_ ?_))
  have w1 : IntKind.wrap .i64 ((k : Int) + 1) = (k + 1 : Nat) := wrap_id (by omega) (by omega)
  by_cases hx : l[k] = v
  · have ht : v ∈ l := by rw [← hx]; exact List.getElem_mem _
    simp -dsimp [hk1, ri]
    repeat' (first | omega | (simp -dsimp [E115, ri, cellp, ints, hk1, hx, ht]) | (refine Also.intro ?_ fun _ => ?_) | (refine Hold.intro fun _ => ?_) | (refine And.intro ?_ ?_))
  · simp -dsimp [hk1, ri]
    repeat' (first | omega | (simp -dsimp [E115, ri, cellp, ints, hk1, hx, w1]) | (refine Also.intro ?_ fun _ => ?_) | (refine Hold.intro fun _ => ?_) | (refine And.intro ?_ ?_))
    refine ⟨k + 1, tle_chain rfl ?_, HLe.refl _, ⟨hk1, ?_⟩, by omega⟩
    · simp [okAll, okv]
    · rw [List.take_succ_eq_append_getElem hk1]
      intro hm
      rcases List.mem_append.1 hm with h | h
      · exact hc h
      · exact hx (List.mem_singleton.1 h).symm
theorem ok115 : FnOK Tryz.prog 115 (.pure hasS) := pure_fn (E := E115) rfl LOK.nil (ok := []) (fn := Tryz.f115) (by kernel_rfl) (by kernel_rfl) (by kernel_rfl) (by kernel_rfl) rfl (fun _ _ => by simp) b115
abbrev chkCS : PSpec := { newBoxS with res := fun d => .int .i64 (if okCells d.1 d.2.1 d.2.2 then 0 else 1) }
noncomputable abbrev E66 : Env := { P := Tryz.prog, fn := tbl [(114, .pure withinS)], own := [], key := 6600, nt := 76 }
theorem b66 : PureBody E66 [] Tryz.f66 chkCS := by
  refine pb ?_
  rintro ⟨se, ge, cells⟩ p1
  simp only at p1
  by_cases q1 : withinB se 1 8 = true
  case neg =>
    have q1' : withinB se 1 8 = false := by simpa using q1
    simp -dsimp [Tryz.f66, E66, q1', okCells]
    repeat' (first | omega | (simp -dsimp [E66, ri, cellp, ints, q1', okCells]) | (refine Also.intro ?_ fun _ => ?_) | (refine Hold.intro fun _ => ?_) | (refine And.intro ?_ ?_))
  by_cases q2 : withinB ge 1 12 = true
  case neg =>
    have q2' : withinB ge 1 12 = false := by simpa using q2
    simp -dsimp [Tryz.f66, E66, q1, q2', okCells]
    repeat' (first | omega | (simp -dsimp [E66, ri, cellp, ints, q1, q2', okCells]) | (refine Also.intro ?_ fun _ => ?_) | (refine Hold.intro fun _ => ?_) | (refine And.intro ?_ ?_))
  have q1' : 1 ≤ se ∧ se ≤ 8 := by simpa [withinB] using q1
  have q2' : 1 ≤ ge ∧ ge ≤ 12 := by simpa [withinB] using q2
  have ws : IntKind.wrap .i64 (se - 1) = se - 1 := wrap_id (by omega) (by omega)
  have wg : IntKind.wrap .i64 (ge - 1) = ge - 1 := wrap_id (by omega) (by omega)
  simp -dsimp [Tryz.f66, E66, q1, q2]
  refine awp_loop [17, 18, 19, 20, 23, 24, 25, 26, 8, 27, 28, 29, 30, 31, 32, 33, 34, 35, 36, 37, 38, 39, 40, 6, 41, 42, 43, 44, 45, 46, 47, 48, 49, 50, 51, 52, 53, 54, 55, 56, 57, 58, 59, 60, 61, 62, 63, 64, 65, 66, 67, 68, 69, 70, 71, 72, 73, 74, 75, 21, 22, 7] (fun k : { k : Nat // k ≤ cells.length ∧ okTo se ge cells k = true } => [(7, (true, .int .i64 (k.1 : Nat)))])
    (fun k => hps [(6608, { base := k.1, blks := [] })] noH) (fun k => cells.length - k.1) ⟨0, by omega, rfl⟩ ?_ (HLe.forget rfl (by intro s; simp [hnext, hps]) rfl) ?_
  · simp [okAll, okv]
  rintro ⟨k, hk, hok⟩
  simp only
  by_cases hk1 : k < cells.length
  case neg =>
    have hke : k = cells.length := by omega
    subst hke
    have hokc : okCells se ge cells = true := by simp [okCells, q1, q2, hok]
    simp -dsimp [hokc]
    repeat' (first | omega | (simp -dsimp [E66, ri, cellp, ints, hokc]) | (refine Also.intro ?_ fun _ => ?_) | (refine Hold.intro fun _ => ?_) | (refine And.intro ?_ ?_))
  have hs := okTo_succ se ge cells k
  have eG : cells.getD k (0, 0) = cells[k] := by simp [List.getD, List.getElem?_eq_getElem hk1]
  have w1 : IntKind.wrap .i64 ((k : Int) + 1) = (k + 1 : Nat) := wrap_id (by omega) (by omega)
  have hfail : okCe se ge cells k = false → okCells se ge cells = false := fun h => by simp [okCells, okTo_fail h hk1]
  have hat : okCe se ge cells k = (withinB (cells[k]).1 0 (se - 1) && withinB (cells[k]).2 0 (ge - 1) && (k == 0 || decide (cmpL [(cells.getD (k - 1) (0, 0)).1, (cells.getD (k - 1) (0, 0)).2] [(cells[k]).1, (cells[k]).2] < 0))) := by
    rw [okCe, eG]
  generalize hc : cells[k] = c at *
  obtain ⟨a, b⟩ := c
  simp only at hat
  by_cases r1 : withinB a 0 (se - 1) = true
  case neg =>
    have r1' : withinB a 0 (se - 1) = false := by simpa using r1
    have hf := hfail (by rw [hat, r1']; rfl)
    simp -dsimp [hk1, hc, cycV]
    repeat' (first | omega | (simp -dsimp [E66, ri, cellp, ints, hk1, hc, cycV, ws, r1', hf]) | (refine Also.intro ?_ fun _ => ?_) | (refine Hold.intro fun _ => ?_) | (refine And.intro ?_ ?_))
  by_cases r2 : withinB b 0 (ge - 1) = true
  case neg =>
    have r2' : withinB b 0 (ge - 1) = false := by simpa using r2
    have hf := hfail (by rw [hat, r1, r2']; rfl)
    simp -dsimp [hk1, hc, cycV]
    repeat' (first | omega | (simp -dsimp [E66, ri, cellp, ints, hk1, hc, cycV, ws, wg, r1, r2', hf]) | (refine Also.intro ?_ fun _ => ?_) | (refine Hold.intro fun _ => ?_) | (refine And.intro ?_ ?_))
  rw [r1, r2, Bool.true_and, Bool.true_and] at hat
  by_cases hk0 : k = 0
  · subst hk0
    simp at hat
    have wone : IntKind.wrap .i64 1 = 1 := wrap_id (by omega) (by omega)
    simp -dsimp [hk1, hc, cycV]
    repeat' (first | omega | (simp -dsimp [E66, ri, cellp, ints, hk1, hc, cycV, ws, wg, r1, r2, wone]) | (refine Also.intro ?_ fun _ => ?_) | (refine Hold.intro fun _ => ?_) | (refine And.intro ?_ ?_))
    simp only [Nat.zero_add] at hs
    refine ⟨1, tle_chain rfl ?_, (by (try simp -dsimp only [hpush_noH, hpush_hps, hps_over]); refine hle_hps ?_; simp -dsimp [allK, ]; repeat' (first | (refine And.intro ?_ ?_) | (refine sLe.same ?_ ?_ <;> (simp; done)) | (refine sLe.clear ?_ ?_ <;> (simp; done)) | (refine sLe.drop 1 ?_ ?_ ?_ <;> (simp; done)))), ⟨hk1, by rw [hs, hok, hat]; rfl⟩, by omega⟩
    simp [okAll, okv]
  have hk2 : k - 1 < cells.length := by omega
  have hkp : 0 < k := by omega
  have wk : IntKind.wrap .i64 ((k : Int) - 1) = (k - 1 : Nat) := by rw [wrap_id (by omega) (by omega)]; omega
  have eP : cells.getD (k - 1) (0, 0) = cells[k - 1] := by simp [List.getD, List.getElem?_eq_getElem hk2]
  rw [eP] at hat
  generalize hpc : cells[k - 1] = p at *
  obtain ⟨pa, pb⟩ := p
  simp only [show (k == 0) = false by simpa using hk0, Bool.false_or, cmp_pair] at hat
  by_cases h1 : a < pa
  · have hf := hfail (by rw [hat, decide_eq_false_iff_not]; omega)
    simp -dsimp [hk1, hc, hpc, cycV]
    repeat' (first | omega | (simp -dsimp [E66, ri, cellp, ints, hk1, hkp, hc, hpc, hk2, cycV, ws, wg, r1, r2, w1, wk, h1, hf]) | (refine Also.intro ?_ fun _ => ?_) | (refine Hold.intro fun _ => ?_) | (refine And.intro ?_ ?_))
  by_cases h2 : a = pa
  · subst h2
    by_cases h3 : b ≤ pb
    · have hf := hfail (by rw [hat, decide_eq_false_iff_not]; omega)
      simp -dsimp [hk1, hc, hpc, cycV]
      repeat' (first | omega | (simp -dsimp [E66, ri, cellp, ints, hk1, hkp, hc, hpc, hk2, cycV, ws, wg, r1, r2, w1, wk, h3, hf]) | (refine Also.intro ?_ fun _ => ?_) | (refine Hold.intro fun _ => ?_) | (refine And.intro ?_ ?_))
    · have ht : okCe se ge cells k = true := by rw [hat, decide_eq_true_eq]; omega
      simp -dsimp [hk1, hc, hpc, cycV]
      repeat' (first | omega | (simp -dsimp [E66, ri, cellp, ints, hk1, hkp, hc, hpc, hk2, cycV, ws, wg, r1, r2, w1, wk, h3]) | (refine Also.intro ?_ fun _ => ?_) | (refine Hold.intro fun _ => ?_) | (refine And.intro ?_ ?_))
      refine ⟨k + 1, tle_chain rfl ?_, (by (try simp -dsimp only [hpush_noH, hpush_hps, hps_over]); refine hle_hps ?_; simp -dsimp [allK, ]; repeat' (first | (refine And.intro ?_ ?_) | (refine sLe.same ?_ ?_ <;> (simp; done)) | (refine sLe.clear ?_ ?_ <;> (simp; done)) | (refine sLe.drop 1 ?_ ?_ ?_ <;> (simp; done)))), ⟨hk1, by rw [hs, hok, ht]; rfl⟩, by omega⟩
      simp [okAll, okv]
  · have ht : okCe se ge cells k = true := by rw [hat, decide_eq_true_eq]; omega
    simp -dsimp [hk1, hc, hpc, cycV]
    repeat' (first | omega | (simp -dsimp [E66, ri, cellp, ints, hk1, hkp, hc, hpc, hk2, cycV, ws, wg, r1, r2, w1, wk, h1, h2]) | (refine Also.intro ?_ fun _ => ?_) | (refine Hold.intro fun _ => ?_) | (refine And.intro ?_ ?_))
    refine ⟨k + 1, tle_chain rfl ?_, (by (try simp -dsimp only [hpush_noH, hpush_hps, hps_over]); refine hle_hps ?_; simp -dsimp [allK, ]; repeat' (first | (refine And.intro ?_ ?_) | (refine sLe.same ?_ ?_ <;> (simp; done)) | (refine sLe.clear ?_ ?_ <;> (simp; done)) | (refine sLe.drop 1 ?_ ?_ ?_ <;> (simp; done)))), ⟨hk1, by rw [hs, hok, ht]; rfl⟩, by omega⟩
    simp [okAll, okv]
theorem ok66 : FnOK Tryz.prog 66 (.pure chkCS) := pure_fn (E := E66) rfl (.cons ok114 .nil) (ok := []) (fn := Tryz.f66) (by kernel_rfl) (by kernel_rfl) (by kernel_rfl) (by kernel_rfl) rfl (fun _ _ => by simp) b66
abbrev beforeS : PSpec := { cmpLS with pre := fun d => d.1.length = d.2.length ∧ d.1.length ≤ 1000000, res := fun d => .bool (decide (cmpL d.1 d.2 < 0)) }
noncomputable abbrev E68 : Env := { P := Tryz.prog, fn := tbl [], own := [], key := 6800, nt := 30 }
theorem b68 : PureBody E68 [] Tryz.f68 beforeS := by
  refine pb ?_
  rintro ⟨a, b⟩ ⟨hl, h2⟩
  simp only at hl h2
  simp -dsimp [Tryz.f68, E68, ints]
  refine awp_loop [6, 7, 8, 9, 12, 13, 14, 15, 16, 17, 18, 19, 20, 21, 22, 23, 24, 25, 26, 27, 28, 29, 4, 10, 11, 5] (fun k : { k : Nat // k ≤ a.length ∧ cmpL (a.drop k) (b.drop k) = cmpL a b } => [(5, (true, .int .i64 (k.1 : Nat)))]) (fun _ => noH) (fun k => a.length - k.1) ⟨0, by omega, rfl⟩ ?_ (HLe.refl _) ?_
  · simp [okAll, okv]
  rintro ⟨k, hk, he⟩
  simp only
  by_cases hk1 : k < a.length
  case neg =>
    rw [List.drop_eq_nil_of_le (by omega), List.drop_eq_nil_of_le (by omega), cmpL] at he
    simp -dsimp [hk1]
    repeat' (first | omega | (simp -dsimp [E68, ri, cellp, ints, hk1, ← he]) | (refine Also.intro ?_ fun _ => ?_) | (refine Hold.intro fun _ => ?_) | (refine And.intro ?_ ?_))
  have hk2 : k < b.length := by omega
  have w1 : IntKind.wrap .i64 ((k : Int) + 1) = (k + 1 : Nat) := wrap_id (by omega) (by omega)
  rw [List.drop_eq_getElem_cons hk1, List.drop_eq_getElem_cons hk2, cmpL] at he
  by_cases hx : a[k] = b[k]
  · rw [if_neg (by simp [cmpZ, hx])] at he
    simp -dsimp [hk1, hk2, ri]
    repeat' (first | omega | (simp -dsimp [E68, ri, cellp, ints, hk1, hk2, hx, w1]) | (refine Also.intro ?_ fun _ => ?_) | (refine Hold.intro fun _ => ?_) | (refine And.intro ?_ ?_))
    refine ⟨k + 1, tle_chain rfl ?_, HLe.refl _, ⟨hk1, he⟩, by omega⟩
    simp [okAll, okv]
  · have hz : cmpZ a[k] b[k] ≠ 0 := by unfold cmpZ; split <;> (try split) <;> omega
    rw [if_pos hz] at he
    have hd : decide (a[k] < b[k]) = decide (cmpL a b < 0) := by
      rw [← he]
      unfold cmpZ
      by_cases h1 : a[k] < b[k]
      · simp [h1]
      · rw [if_neg h1]
        split <;> simp [h1]
    simp -dsimp [hk1, hk2, ri]
    repeat' (first | omega | (simp -dsimp [E68, ri, cellp, ints, hk1, hk2, hx, hd]) | (refine Also.intro ?_ fun _ => ?_) | (refine Hold.intro fun _ => ?_) | (refine And.intro ?_ ?_))
theorem ok68 : FnOK Tryz.prog 68 (.pure beforeS) := pure_fn (E := E68) rfl LOK.nil (ok := []) (fn := Tryz.f68) (by kernel_rfl) (by kernel_rfl) (by kernel_rfl) (by kernel_rfl) rfl (fun _ _ => by simp) b68
end Go.Sx
end
section
namespace Go.Sx
open Go.Proofs
set_option maxHeartbeats 1000000
theorem mem_memTo {set s : Nat} {a : Int} (h0 : 0 ≤ a) (h1 : a < s) : (a ∈ natI (memTo set s)) ↔ set.testBit a.toNat = true := by
  obtain ⟨n, rfl⟩ := Int.eq_ofNat_of_zero_le h0
  rw [mem_natI, memTo, List.mem_filter, List.mem_range, Int.toNat_natCast]
  exact ⟨fun h => h.2, fun h => ⟨by omega, h⟩⟩
def wlTo (set : Nat) (cells : List (Int × Int)) (g i : Nat) : List Nat := wornX 0 set cells g ++ if (cells.take i).any (cellHit set g) then [g] else []
theorem wlTo_zero (set : Nat) (cells : List (Int × Int)) (g : Nat) : wlTo set cells g 0 = wornX 0 set cells g := by simp [wlTo]
theorem wlTo_all (set : Nat) (cells : List (Int × Int)) (g : Nat) : wlTo set cells g cells.length = wornX 0 set cells (g + 1) := by
  rw [wornX_succ, wlTo, List.take_of_length_le (Nat.le_refl _)]
theorem take_any {cells : List (Int × Int)} {p : Int × Int → Bool} {i : Nat} (h : i < cells.length) : (cells.take (i + 1)).any p = ((cells.take i).any p || p cells[i]) := by
  rw [List.take_succ_eq_append_getElem h, List.any_append]; simp
theorem wlTo_same {set : Nat} {cells : List (Int × Int)} {g i : Nat} (hi : i < cells.length) (h : (cells.take i).any (cellHit set g) = true ∨ cellHit set g cells[i] = false) : wlTo set cells g (i + 1) = wlTo set cells g i := by
  unfold wlTo
  rw [take_any hi]
  rcases h with h | h
  · rw [h, Bool.true_or]
  · rw [h, Bool.or_false]
theorem wlTo_new {set : Nat} {cells : List (Int × Int)} {g i : Nat} (hi : i < cells.length) (h : (cells.take i).any (cellHit set g) = false) (h2 : cellHit set g cells[i] = true) : wlTo set cells g (i + 1) = wlTo set cells g i ++ [g] := by
  unfold wlTo
  rw [take_any hi]
  simp [h, h2]
theorem mem_wlTo {set : Nat} {cells : List (Int × Int)} {g i : Nat} : ((g : Int) ∈ natI (wlTo set cells g i)) ↔ (cells.take i).any (cellHit set g) = true := by
  rw [mem_natI, wlTo, List.mem_append]
  have := wornX_not 0 set cells g
  split
  · rename_i h; simp [h]
  · rename_i h; simp [h, this]
theorem wlTo_len (set : Nat) (cells : List (Int × Int)) (g i : Nat) : (wlTo set cells g i).length ≤ g + 1 := by
  unfold wlTo wornX
  have := List.length_filter_le (fun g => cells.any (cellHit set g)) (List.range g)
  rw [List.length_range] at this
  rw [List.length_append]
  split <;> simp <;> omega
abbrev expnS : PSpec := { dom := Int × Int × Nat × List (Int × Int), enc := fun d => [.int .i64 d.1, .int .i64 d.2.1, .int .i64 (d.2.2.1 : Int), .sl 2 (d.2.2.2.map cycV)], dec := fun l => ((l.getD 0 .top).toInt, (l.getD 1 .top).toInt, (l.getD 2 .top).toInt.toNat, (l.getD 3 .top).toCells), pre := fun d => okCells d.1 d.2.1 d.2.2.2 = true ∧ d.2.2.1 < 2 ^ d.1.toNat ∧ d.2.2.2.length ≤ 9223372036854775807, res := fun d => .tup [ints (exSo (bysN d.1 d.2.2.2) d.2.2.1).1, ints (exSo (bysN d.1 d.2.2.2) d.2.2.1).2] }
noncomputable abbrev E67 : Env := { P := Tryz.prog, fn := tbl [(115, .pure hasS)], own := [], key := 6700, nt := 70 }
theorem b67 : PureBody E67 [] Tryz.f67 expnS := by
  refine pb ?_
  rintro ⟨se, ge, set, cells⟩ ⟨hv, hset, hl⟩
  simp only at hv hset hl
  obtain ⟨q1, q2, q3, q4⟩ := okCells_facts hv
  have q5 : 1 ≤ ge ∧ ge ≤ 12 := by simp only [okCells, Bool.and_eq_true, withinB, decide_eq_true_eq] at hv; omega
  obtain ⟨S, rfl⟩ := Int.eq_ofNat_of_zero_le (show 0 ≤ se by omega)
  obtain ⟨G, rfl⟩ := Int.eq_ofNat_of_zero_le (show 0 ≤ ge by omega)
  rw [Int.toNat_natCast] at hset
  have hx1 : (exSo (bysN S cells) set).1 = natI (memTo set S) := by simp only [exSo]; rw [memN_lt (by omega) hset]
  have hx2 : (exSo (bysN S cells) set).2 = natI (wornX 0 set cells G) := by simp only [exSo]; rw [wornX_eq hv]; rfl
  have hset2 : set < 256 := Nat.lt_of_lt_of_le hset (Nat.le_trans (Nat.pow_le_pow_right (by decide) (show S ≤ 8 by omega)) (by decide))
  rw [hx1, hx2]
  clear hx1 hx2 q3 q4
  simp -dsimp [Tryz.f67, E67, ints]
  refine awp_loop_g [(10, 6729, 1, 3)] rfl (by simp) [15, 16, 17, 20, 21, 22, 23, 24, 25, 26, 27, 28, 29, 10, 18, 19, 12] (fun k : Fin (S + 1) => [(12, (true, .int .i64 (k.1 : Nat))), (10, (true, .bsl 6729 0 (memTo set k.1).length))])
    (fun k => hps [(6729, { base := 0, blks := [{ z := 1, els := (natI (memTo set k.1)).map ri, ty := 3 }] })] noH) (fun k => S - k.1) ⟨0, by omega⟩ ?_ (HLe.of_eq (by simp [memTo, natI])) ?_
  · simp [okAll, okv, memTo]
  rintro ⟨k, hk⟩
  simp only
  by_cases hk1 : k < S
  · have h1 := bit_shr set k (by omega)
    have hle : sr set k ≤ set := by unfold sr; rw [Nat.shiftRight_eq_div_pow]; exact Nat.div_le_self _ _
    have h2 := bit_and (a := sr set k) (b := 1) (by omega) (by decide)
    simp only [Int.natCast_one] at h2
    have hml := memTo_len set k
    have w1 : IntKind.wrap .i64 ((k : Int) + 1) = (k + 1 : Nat) := wrap_id (by omega) (by omega)
    have wu : IntKind.wrap .u64 (k : Int) = k := wrap_u (by omega) (by omega)
    have hb := bit_one set k
    have hb8 : ((memTo set k).length + 1) * 8 ≤ 140737488355328 := by omega
    by_cases ht : set.testBit k = true
    · rw [if_pos ht] at hb
      rw [hb] at h2
      have hs2 := memTo_succ set k
      rw [if_pos ht] at hs2
      simp -dsimp [h1, h2, hk1]
      repeat' (first | omega | (simp -dsimp [E67, ri, cellp, ints, h1, h2, hk1, w1, wu, hb8]) | (refine Also.intro ?_ fun _ => ?_) | (refine Hold.intro fun _ => ?_) | (refine And.intro ?_ ?_))
      refine ⟨⟨k + 1, by omega⟩, tle_chain rfl ?_, HLe.of_eq (by simp [hs2, natI, ri]), by simp only; omega⟩
      simp [okAll, okv, hs2]
    · have ht' : set.testBit k = false := by simpa using ht
      rw [if_neg ht] at hb
      rw [hb] at h2
      have hs2 := memTo_succ set k
      rw [if_neg ht, List.append_nil] at hs2
      simp -dsimp [h1, h2, hk1]
      repeat' (first | omega | (simp -dsimp [E67, ri, cellp, ints, h1, h2, hk1, w1, wu]) | (refine Also.intro ?_ fun _ => ?_) | (refine Hold.intro fun _ => ?_) | (refine And.intro ?_ ?_))
      refine ⟨⟨k + 1, by omega⟩, tle_chain rfl ?_, HLe.of_eq (by simp [hs2]), by simp only; omega⟩
      simp [okAll, okv, hs2]
  have hkS : k = S := by omega
  subst hkS
  simp -dsimp
  refine awp_loop_g [(11, 6767, 1, 3)] rfl (by simp) [30, 31, 32, 14, 35, 36, 37, 38, 41, 42, 43, 44, 45, 46, 47, 48, 49, 50, 51, 52, 53, 54, 55, 56, 57, 58, 59, 60, 61, 62, 63, 64, 65, 66, 67, 11, 39, 40, 33, 34, 13] (fun g : Fin (G + 1) => [(13, (true, .int .i64 (g.1 : Nat))), (11, (true, .bsl 6767 0 (wornX 0 set cells g.1).length))])
    (fun g => hps [(6767, { base := 0, blks := [{ z := 1, els := (natI (wornX 0 set cells g.1)).map ri, ty := 3 }] }), (6729, { base := 0, blks := [{ z := 1, els := (natI (memTo set k)).map ri, ty := 3 }] })] noH) (fun g => G - g.1) ⟨0, by omega⟩ ?_ (HLe.of_eq (by simp [wornX, natI])) ?_
  · simp [okAll, okv, wornX]
  rintro ⟨g, hg⟩
  simp only
  by_cases hg1 : g < G
  case neg =>
    have hgG : g = G := by omega
    subst hgG
    simp -dsimp
    repeat' (first | omega | (simp -dsimp [E67, ri, cellp, ints, hk]) | (refine Also.intro ?_ fun _ => ?_) | (refine Hold.intro fun _ => ?_) | (refine And.intro ?_ ?_))
  have wg1 : IntKind.wrap .i64 ((g : Int) + 1) = (g + 1 : Nat) := wrap_id (by omega) (by omega)
  simp -dsimp [hg1]
  refine awp_loop [35, 36, 37, 38, 41, 42, 43, 44, 45, 46, 47, 48, 49, 50, 51, 52, 53, 54, 55, 56, 57, 58, 59, 60, 61, 62, 63, 64, 65, 66, 67, 11, 39, 40, 14] (fun i : Fin (cells.length + 1) => [(14, (true, .int .i64 (i.1 : Nat))), (11, (true, .bsl 6767 0 (wlTo set cells g i.1).length))])
    (fun i => hps [(6767, { base := 0, blks := [{ z := 1, els := (natI (wlTo set cells g i.1)).map ri, ty := 3 }] }), (6729, { base := 0, blks := [{ z := 1, els := (natI (memTo set k)).map ri, ty := 3 }] })] noH) (fun i => cells.length - i.1) ⟨0, by omega⟩ ?_ (HLe.of_eq (by simp [wlTo_zero])) ?_
  · simp [okAll, okv, wlTo_zero]
  rintro ⟨i, hi⟩
  simp only
  by_cases hi1 : i < cells.length
  case neg =>
    have hie : i = cells.length := by omega
    subst hie
    have e := wlTo_all set cells g
    simp -dsimp [e]
    repeat' (first | omega | (simp -dsimp [E67, ri, cellp, ints, wg1, e]) | (refine Also.intro ?_ fun _ => ?_) | (refine Hold.intro fun _ => ?_) | (refine And.intro ?_ ?_))
    refine ⟨⟨g + 1, by omega⟩, tle_kept (kept_upds rfl (kept_forget rfl (kept_upds rfl kept_base))) ?_, HLe.refl _, by simp only; omega⟩
    simp [okAll, okv]
  have wi1 : IntKind.wrap .i64 ((i : Int) + 1) = (i + 1 : Nat) := wrap_id (by omega) (by omega)
  have hsame := wlTo_same (set := set) (cells := cells) (g := g) hi1
  have hnew := wlTo_new (set := set) (cells := cells) (g := g) hi1
  have hcell := ok_cell hv cells[i] (List.getElem_mem hi1)
  have hwl := wlTo_len set cells g i
  have hmw := mem_wlTo (set := set) (cells := cells) (g := g) (i := i)
  have hmll := memTo_len set k
  have hb8 : ((wlTo set cells g i).length + 1) * 8 ≤ 140737488355328 := by omega
  have p1 : (wlTo set cells g i).length ≤ 9223372036854775807 := by omega
  have p2 : (memTo set k).length ≤ 9223372036854775807 := by omega
  generalize hc : cells[i] = c at *
  obtain ⟨a, b⟩ := c
  simp only at hcell
  have hma := mem_memTo (set := set) (s := k) (a := a) hcell.1 hcell.2.1
  by_cases hb : b = (g : Int)
  case neg =>
    have e := hsame (.inr (by simp [cellHit, hb]))
    simp -dsimp [hi1, hc, cycV]
    repeat' (first | omega | (simp -dsimp [E67, ri, cellp, ints, hi1, hc, cycV, hb, wi1]) | (refine Also.intro ?_ fun _ => ?_) | (refine Hold.intro fun _ => ?_) | (refine And.intro ?_ ?_))
    refine ⟨⟨i + 1, by omega⟩, tle_chain rfl ?_, HLe.of_eq (by simp [e]), by simp only; omega⟩
    simp [okAll, okv, e]
  subst hb
  by_cases ht : set.testBit a.toNat = true
  · have e := hsame (.inr (by simp [cellHit, ht]))
    rw [ht] at hma
    have hma : a ∈ natI (memTo set k) := hma.2 rfl
    simp -dsimp [hi1, hc, cycV]
    repeat' (first | omega | (simp -dsimp [E67, ri, cellp, ints, hi1, hc, cycV, wi1, hma, p1, p2]) | (refine Also.intro ?_ fun _ => ?_) | (refine Hold.intro fun _ => ?_) | (refine And.intro ?_ ?_))
    refine ⟨⟨i + 1, by omega⟩, tle_chain rfl ?_, HLe.of_eq (by simp [e]), by simp only; omega⟩
    simp [okAll, okv, e]
  have hma : ¬ a ∈ natI (memTo set k) := fun h => ht (hma.1 h)
  by_cases hp : (cells.take i).any (cellHit set g) = true
  · have e := hsame (.inl hp)
    have hmw := hmw.2 hp
    simp -dsimp [hi1, hc, cycV]
    repeat' (first | omega | (simp -dsimp [E67, ri, cellp, ints, hi1, hc, cycV, wi1, hma, hmw, p1, p2]) | (refine Also.intro ?_ fun _ => ?_) | (refine Hold.intro fun _ => ?_) | (refine And.intro ?_ ?_))
    refine ⟨⟨i + 1, by omega⟩, tle_chain rfl ?_, HLe.of_eq (by simp [e]), by simp only; omega⟩
    simp [okAll, okv, e]
  · have e := hnew (by simpa using hp) (by simp [cellHit, ht])
    have hmw : ¬ (g : Int) ∈ natI (wlTo set cells g i) := fun h => hp (hmw.1 h)
    simp -dsimp [hi1, hc, cycV]
    repeat' (first | omega | (simp -dsimp [E67, ri, cellp, ints, hi1, hc, cycV, wi1, hma, hmw, hb8, p1, p2]) | (refine Also.intro ?_ fun _ => ?_) | (refine Hold.intro fun _ => ?_) | (refine And.intro ?_ ?_))
    refine ⟨⟨i + 1, by omega⟩, tle_chain rfl ?_, HLe.of_eq (by simp [e, natI, ri]), by simp only; omega⟩
    simp [okAll, okv, e]
theorem ok67 : FnOK Tryz.prog 67 (.pure expnS) := pure_fn (E := E67) rfl (.cons ok115 .nil) (ok := []) (fn := Tryz.f67) (by kernel_rfl) (by kernel_rfl) (by kernel_rfl) (by kernel_rfl) rfl (fun _ _ => by simp) b67
end Go.Sx
end
section
namespace Go.Sx
open Go.Proofs
set_option maxHeartbeats 1000000
theorem minX_next (b : List Nat) {k : Nat} (hk : 1 ≤ k) : minX (expTo b (k + 1)) = if better (exSo b k) (minX (expTo b k)) then exSo b k else minX (expTo b k) := by
  obtain ⟨j, rfl⟩ : ∃ j, k = j + 1 := ⟨k - 1, by omega⟩
  exact minX_step b j
theorem better_iff (x1 x2 y1 y2 : List Int) : better (x1, x2) (y1, y2) = true ↔ (x1.length + x2.length < y1.length + y2.length ∨ (x1.length + x2.length = y1.length + y2.length ∧ (x1.length < y1.length ∨ (x1.length = y1.length ∧ cmpL x1 y1 < 0)))) := by
  simp only [better, Bool.or_eq_true, Bool.and_eq_true, decide_eq_true_eq]
  simp only [szX, cmpX]
  split <;> (constructor <;> (intro h; omega))
noncomputable abbrev E38 : Env := { P := Tryz.prog, fn := tbl [(66, .pure chkCS), (67, .pure expnS), (68, .pure beforeS)], own := [], key := 3800, nt := 85 }
theorem b38 : PureBody E38 [] Tryz.f38 ExplainS := by
  refine pb ?_
  rintro ⟨se, ge, cells⟩ p1
  simp only at p1
  by_cases hv : okCells se ge cells = true
  case neg =>
    have hv' : okCells se ge cells = false := by simpa using hv
    simp -dsimp [Tryz.f38, E38, hv', explR]
    repeat' (first | omega | (simp -dsimp [E38, ri, cellp, ints, hv', p1, explR]) | (refine Also.intro ?_ fun _ => ?_) | (refine Hold.intro fun _ => ?_) | (refine And.intro ?_ ?_))
  obtain ⟨q1, q2, q3, q4⟩ := okCells_facts hv
  obtain ⟨S, rfl⟩ := Int.eq_ofNat_of_zero_le (show 0 ≤ se by omega)
  have hS : S ≤ 8 := by omega
  have hpos : 0 < 2 ^ S := Nat.two_pow_pos S
  have hres : explR S ge cells = ((minX (expTo (bysN S cells) (2 ^ S))).1, (minX (expTo (bysN S cells) (2 ^ S))).2, 0) := by
    rw [explR, if_pos hv, Int.toNat_natCast]; rfl
  rw [hres]
  have h2n : 2 ^ S ≤ 256 := Nat.le_trans (Nat.pow_le_pow_right (by decide) hS) (by decide)
  have h1 : shlV .i64 1 (S : Int) = ((2 ^ S : Nat) : Int) := bit_shl S (by omega)
  have wu : IntKind.wrap .u64 (S : Int) = S := wrap_u (by omega) (by omega)
  have hf := minX_first (bysN S cells)
  have hlen : ∀ k, (exSo (bysN S cells) k).1.length ≤ 62 ∧ (exSo (bysN S cells) k).2.length ≤ 62 := fun k => by
    simp only [exSo, natI_length]
    exact ⟨memN_len _, memN_len _⟩
  simp -dsimp [Tryz.f38, E38, hv, ints]
  repeat' (first | omega | (simp -dsimp [E38, ri, cellp, ints, hv, p1, hpos]) | (refine Also.intro ?_ fun _ => ?_) | (refine Hold.intro fun _ => ?_) | (refine And.intro ?_ ?_))
  refine awp_loop [30, 31, 32, 33, 34, 38, 39, 40, 41, 42, 37, 43, 44, 13, 14, 45, 46, 47, 48, 49, 50, 51, 52, 53, 54, 55, 15, 56, 57, 58, 59, 60, 61, 62, 63, 64, 65, 66, 67, 68, 69, 70, 71, 72, 73, 74, 75, 76, 77, 78, 79, 80, 81, 10, 82, 11, 35, 36, 12] (fun k : { k : Nat // 1 ≤ k ∧ k ≤ 2 ^ S } => [(12, (true, .int .i64 (k.1 : Nat))), (10, (true, ints (minX (expTo (bysN S cells) k.1)).1)), (11, (true, ints (minX (expTo (bysN S cells) k.1)).2))])
    (fun k => noH) (fun k => 2 ^ S - k.1) ⟨1, by omega, hpos⟩ ?_ (HLe.refl _) ?_
  · simp [okAll, okv, hf, ints]
  rintro ⟨k, hk0, hk⟩
  simp only
  by_cases hk1 : k < 2 ^ S
  case neg =>
    have hke : k = 2 ^ S := by omega
    have hki : ¬ (k : Int) < ((2 ^ S : Nat) : Int) := by omega
    subst hke
    simp -dsimp [wu, h1, hki]
    repeat' (first | omega | (simp -dsimp [E38, ri, cellp, ints, hki]) | (refine Also.intro ?_ fun _ => ?_) | (refine Hold.intro fun _ => ?_) | (refine And.intro ?_ ?_))
  have hki : (k : Int) < ((2 ^ S : Nat) : Int) := by omega
  have w1 : IntKind.wrap .i64 ((k : Int) + 1) = (k + 1 : Nat) := wrap_id (by omega) (by omega)
  have hst := minX_next (bysN S cells) hk0
  have hm := expTo_mem (bysN S cells) k _ (minX_mem (by have := expTo_pos (bysN S cells) (k - 1); rwa [show k - 1 + 1 = k by omega] at this))
  have hx := hlen k
  generalize hN : 2 ^ S = N at *
  generalize minX (expTo (bysN S cells) k) = m at *
  generalize hxe : exSo (bysN S cells) k = x at *
  obtain ⟨x1, x2⟩ := x
  obtain ⟨y1, y2⟩ := m
  simp only at hm hx
  obtain ⟨hm1, hm2⟩ := hm
  obtain ⟨hx1, hx2⟩ := hx
  have wa : IntKind.wrap .i64 ((x1.length : Int) + x2.length) = (x1.length : Int) + x2.length := wrap_id (by omega) (by omega)
  have wb : IntKind.wrap .i64 ((x1.length : Int) + x2.length - y1.length) = (x1.length : Int) + x2.length - y1.length := wrap_id (by omega) (by omega)
  have wc : IntKind.wrap .i64 ((x1.length : Int) + x2.length - y1.length - y2.length) = (x1.length : Int) + x2.length - y1.length - y2.length := wrap_id (by omega) (by omega)
  have hk9 : (k : Int).toNat = k := Int.toNat_natCast _
  by_cases c1 : (x1.length : Int) + x2.length - y1.length - y2.length < 0
  · rw [if_pos (by rw [better_iff]; omega)] at hst
    simp -dsimp [wu, h1, hki]
    repeat' (first | omega | (simp -dsimp [E38, ri, cellp, ints, wu, h1, hki, hv, hN, p1, hk1, hxe, wa, wb, wc, c1, w1]) | (refine Also.intro ?_ fun _ => ?_) | (refine Hold.intro fun _ => ?_) | (refine And.intro ?_ ?_))
    refine ⟨k + 1, tle_chain rfl ?_, HLe.refl _, ⟨by omega, by omega⟩, by omega⟩
    simp [okAll, okv, ints, hst]
  by_cases c2 : (x1.length : Int) + x2.length - y1.length - y2.length = 0
  case neg =>
    rw [if_neg (by rw [better_iff]; omega)] at hst
    simp -dsimp [wu, h1, hki]
    repeat' (first | omega | (simp -dsimp [E38, ri, cellp, ints, wu, h1, hki, hv, hN, p1, hk1, hxe, wa, wb, wc, c1, c2, w1]) | (refine Also.intro ?_ fun _ => ?_) | (refine Hold.intro fun _ => ?_) | (refine And.intro ?_ ?_))
    refine ⟨k + 1, tle_chain rfl ?_, HLe.refl _, ⟨by omega, by omega⟩, by omega⟩
    simp [okAll, okv, ints, hst]
  by_cases c3 : x1.length < y1.length
  · rw [if_pos (by rw [better_iff]; omega)] at hst
    have c3' : (x1.length : Int) < y1.length := by omega
    simp -dsimp [wu, h1, hki]
    repeat' (first | omega | (simp -dsimp [E38, ri, cellp, ints, wu, h1, hki, hv, hN, p1, hk1, hxe, wa, wb, wc, c2, c3, c3', w1]) | (refine Also.intro ?_ fun _ => ?_) | (refine Hold.intro fun _ => ?_) | (refine And.intro ?_ ?_))
    refine ⟨k + 1, tle_chain rfl ?_, HLe.refl _, ⟨by omega, by omega⟩, by omega⟩
    simp [okAll, okv, ints, hst]
  by_cases c4 : x1.length = y1.length
  case neg =>
    rw [if_neg (by rw [better_iff]; omega)] at hst
    have c4' : ¬ (x1.length : Int) = y1.length := by omega
    simp -dsimp [wu, h1, hki]
    repeat' (first | omega | (simp -dsimp [E38, ri, cellp, ints, wu, h1, hki, hv, hN, p1, hk1, hxe, wa, wb, wc, c2, c3, c4, c4', w1]) | (refine Also.intro ?_ fun _ => ?_) | (refine Hold.intro fun _ => ?_) | (refine And.intro ?_ ?_))
    refine ⟨k + 1, tle_chain rfl ?_, HLe.refl _, ⟨by omega, by omega⟩, by omega⟩
    simp [okAll, okv, ints, hst]
  have c4' : ((x1.length : Int) = y1.length) = True := eq_true (by omega)
  have c4'' : (x1.length = y1.length) = True := eq_true c4
  have c6 : x1.length ≤ 1000000 := by omega
  by_cases c5 : cmpL x1 y1 < 0
  · rw [if_pos (by rw [better_iff]; omega)] at hst
    simp -dsimp [wu, h1, hki]
    repeat' (first | omega | (simp -dsimp [E38, ri, cellp, ints, wu, h1, hki, hv, hN, p1, hk1, hxe, wa, wb, wc, c2, c3, c4', c4'', c5, c6, w1]) | (refine Also.intro ?_ fun _ => ?_) | (refine Hold.intro fun _ => ?_) | (refine And.intro ?_ ?_))
    refine ⟨k + 1, tle_chain rfl ?_, HLe.refl _, ⟨by omega, by omega⟩, by omega⟩
    simp [okAll, okv, ints, hst]
  · rw [if_neg (by rw [better_iff]; omega)] at hst
    simp -dsimp [wu, h1, hki]
    repeat' (first | omega | (simp -dsimp [E38, ri, cellp, ints, wu, h1, hki, hv, hN, p1, hk1, hxe, wa, wb, wc, c2, c3, c4', c4'', c5, c6, w1]) | (refine Also.intro ?_ fun _ => ?_) | (refine Hold.intro fun _ => ?_) | (refine And.intro ?_ ?_))
    refine ⟨k + 1, tle_chain rfl ?_, HLe.refl _, ⟨by omega, by omega⟩, by omega⟩
    simp [okAll, okv, ints, hst]
theorem ok38 : FnOK Tryz.prog 38 (.pure ExplainS) := pure_fn (E := E38) rfl (.cons ok66 (.cons ok67 (.cons ok68 .nil))) (ok := []) (fn := Tryz.f38) (by kernel_rfl) (by kernel_rfl) (by kernel_rfl) (by kernel_rfl) rfl (fun _ _ => by simp) b38
end Go.Sx
end
end
section
/- Two strictly ascending lists with the same members are equal. No conditions. -/
namespace Go.Sx
theorem asc_eq : ∀ {a b : List Int}, a.Pairwise (· < ·) → b.Pairwise (· < ·) → (∀ x, x ∈ a ↔ x ∈ b) → a = b
  | [], [], _, _, _ => rfl
  | [], y :: b, _, _, h => by have := (h y).2 (by simp); simp at this
  | x :: a, [], _, _, h => by have := (h x).1 (by simp); simp at this
  | x :: a, y :: b, ha, hb, h => by
    rw [List.pairwise_cons] at ha hb
    have hx : x = y ∨ x ∈ b := by simpa using (h x).1 (by simp)
    have hy : y = x ∨ y ∈ a := by simpa using (h y).2 (by simp)
    have e : x = y := by
      rcases hx with hx | hx
      · exact hx
      · rcases hy with hy | hy
        · exact hy.symm
        · have := hb.1 x hx; have := ha.1 y hy; omega
    subst e
    have : a = b := asc_eq ha.2 hb.2 fun z => by
      have hz := h z
      simp only [List.mem_cons] at hz
      constructor
      · intro hza
        rcases hz.1 (.inr hza) with e | e
        · have := ha.1 z hza; omega
        · exact e
      · intro hzb
        rcases hz.2 (.inr hzb) with e | e
        · have := hb.1 z hzb; omega
        · exact e
    rw [this]
end Go.Sx
end
