/- Parts: the law about histories (the walk). No conditions. -/
import Derived.Test.YtcbcajnkdknkdaaDoorP23
set_option linter.unusedSimpArgs false
set_option linter.unusedVariables false
set_option linter.unusedSectionVars false
set_option linter.unusedSimpArgs false
set_option linter.unusedSectionVars false
set_option maxRecDepth 100000
set_option maxHeartbeats 8000000
namespace Go.Sx
open Go.Proofs
attribute [local irreducible] HLe
attribute [local simp] hps_app

def hrow (l : List Wk) (q : Nat) : List V := [.sl 6 ((refH l q l.length).map Stt.row)]
/-- The histories of the first parts. -/
def HR (l : List Wk) (P : Nat) : List (List V) := (List.range P).map (hrow l)
theorem HR_len (l : List Wk) (P : Nat) : (HR l P).length = P := by simp [HR]
theorem HR_get (l : List Wk) {P q : Nat} (h : q < P) : (HR l P)[q]? = some [.sl 6 ((refH l q l.length).map Stt.row)] := by
  simp [HR, h, hrow]
theorem HR_succ (l : List Wk) (P : Nat) : HR l (P + 1) = HR l P ++ [[.sl 6 ((refH l P l.length).map Stt.row)]] := by
  simp [HR, List.range_succ, hrow]
theorem accH_bd {X : List Stt} (hX : ∀ (j : Nat) (x : Stt), X[j]? = some x → (0 ≤ x.hours ∧ x.hours ≤ 20000) ∧ 0 ≤ x.cycles ∧ x.cycles ≤ 20000) : ∀ j, j ≤ X.length → (0 ≤ (accH X j).1 ∧ (accH X j).1 ≤ 20000 * j) ∧ 0 ≤ (accH X j).2 ∧ (accH X j).2 ≤ 20000 * j
  | 0, _ => by simp [accH]
  | j + 1, h => by
    have ih := accH_bd hX j (by omega)
    have hj : j < X.length := by omega
    have e : X[j]? = some (X.getD j default) := by simp [List.getD, hj]
    have := hX j _ e
    simp only [accH]
    omega
/-- A number up to M, and how many blocks have been made. -/
structure NC (M : Nat) where
  n : Nat
  c : Nat
  h : n ≤ M
noncomputable abbrev lawCpS : PSpec := mkP rlE RL.Fine fun _ => .bool true
noncomputable abbrev E9 : Env := { P := Tryd.prog, fn := tbl [(15, .pure worksS), (19, .pure rightS), (22, .pure usedS), (30, .pure hstS), (38, .pure meetS)], own := [], key := 900, nt := 280 }
theorem b9 : PureBody E9 [] Tryd.f9 lawCpS := by
  refine pb ?_
  rintro ⟨r, l⟩ hfn
  have hfn : RL.Fine ⟨r, l⟩ := hfn
  cases hr : rightB r l
  · simp -dsimp [Tryd.f9, E9, Reg.row]
    repeat' (first | omega | (simp -dsimp [E9, ri, cellp, ints, rlE_dec', hfn, hr]) | (refine Also.intro ?_ fun _ => ?_) | (refine Hold.intro fun _ => ?_) | (refine And.intro ?_ ?_))
  have hE : opE r l = 0 := by simp [rightB] at hr; exact hr.2
  obtain ⟨hWf, hRel⟩ := opE_rel hE
  obtain ⟨v1, v2, v3, v4, v5, v6, v7, v8⟩ := valid_facts hWf.val
  have hl2 : l.length ≤ 200 := (opE_inv hE).2.1
  have hpsl : (opH r l).ps.length = r.parts.length := hRel.psl
  have hUl : (eaR r l true).length = r.parts.length := by simp [eaR, hE, hpsl]
  have hUg : ∀ p (hp : p < r.parts.length), (eaR r l true)[p]? = some ((r.parts.getD p default).hours + (accH (refH l p l.length) (refH l p l.length).length).1, (r.parts.getD p default).cycles + (accH (refH l p l.length) (refH l p l.length).length).2) := by
    intro p hp
    obtain ⟨e1, e2⟩ := acc_used hE hp
    have hq : (opH r l).ps[p]? = some ((opH r l).ps.getD p default) := by simp [List.getD, hpsl, hp]
    simp only [eaR, hE, if_true, List.getElem?_map, hq, Option.map_some, eaP, e1, e2]
  have hhst : ∀ p : Nat, p < r.parts.length → hstF r l p = refH l p l.length ∧ hstE r l p = 0 := by
    intro p hp
    have : RS.partA r p = true := by
      have hw : wsub (r.parts.length : Int) 1 = r.parts.length - 1 := wrap_id (by omega) (by omega)
      simp only [RS.partA, hw, withinB, decide_eq_true_eq]; omega
    simp [hstF, hstE, hE, this]
  generalize hUU : eaR r l true = U at *
  simp -dsimp [Tryd.f9, E9, Reg.row]
  repeat' (first | omega | (simp -dsimp [E9, ri, cellp, ints, rlE_dec', Reg.row, hfn, hr, hE, hUU, hUl, prs]) | (refine Also.intro ?_ fun _ => ?_) | (refine Hold.intro fun _ => ?_) | (refine And.intro ?_ ?_))
  refine awp_loop_g [(7, 1077, 1, 57)] rfl (by simp) [45, 46, 47, 48, 49, 53, 54, 55, 56, 52, 57, 58, 9, 10, 59, 60, 4, 61, 62, 63, 64, 65, 66, 67, 68, 69, 70, 71, 72, 11, 12, 13, 73, 74, 75, 76, 79, 80, 81, 82, 83, 84, 85, 86, 87, 88, 89, 90, 91, 92, 93, 94, 95, 96, 97, 98, 99, 100, 101, 102, 103, 104, 105, 106, 107, 108, 109, 110, 111, 112, 113, 114, 115, 116, 117, 118, 119, 120, 121, 122, 123, 124, 125, 126, 127, 128, 129, 130, 131, 132, 133, 134, 135, 136, 137, 138, 139, 77, 78, 140, 141, 142, 143, 144, 145, 146, 147, 14, 148, 149, 150, 153, 154, 155, 156, 157, 158, 159, 160, 161, 162, 163, 164, 165, 166, 167, 168, 169, 170, 171, 172, 173, 151, 152, 174, 175, 176, 177, 7, 50, 51, 8] (fun k : Fin (r.parts.length + 1) => [(8, (true, .int .i64 (k.1 : Nat))), (7, (true, .bsl 1077 0 k.1))])
    (fun k => hps [(1077, { base := 0, blks := [{ z := 1, els := HR l k.1, ty := 57 }] }), (902, { base := 0, blks := [{ z := 4, els := [[.sl 3 (r.kinds.map Kd.row), .sl 4 (r.parts.map Pt.row), .int .i64 r.machines, .sl 2 (r.orders.map Od.row)]], ty := 38 }] })] noH) (fun k => r.parts.length - k.1) ⟨0, by omega⟩ ?_ ?_ ?_
  · simp [okAll, okv]
  · exact (by (try simp -dsimp only [hpush_noH, hpush_hps, hps_over]); refine hle_hps ?_; simp -dsimp [allK, HR]; repeat' (first | (refine And.intro ?_ ?_) | (refine sLe.same ?_ ?_ <;> (simp; done)) | (refine sLe.clear ?_ ?_ <;> (first | (simp; done) | (simp; omega))) | (refine sLe.drop 1 ?_ ?_ ?_ <;> (simp; done))))
  rintro ⟨p, hk⟩
  simp only
  by_cases hp : p < r.parts.length
  · have hpi : (p : Int) < r.parts.length := by omega
    have hwp : IntKind.wrap .i64 ((p : Int) + 1) = (p + 1 : Nat) := wrap_id (by omega) (by omega)
    obtain ⟨pt, hpt, hpt'⟩ := get_ex hp
    have hgp : r.parts.getD p default = pt := by simp [List.getD, hpt]
    have hptb := v7 pt (hpt' ▸ List.getElem_mem hp)
    have hug := hUg p hp
    rw [hgp] at hug
    have huU : p < U.length := by omega
    have hug' : U[p] = _ := (List.getElem?_eq_some_iff.1 hug).2
    obtain ⟨hh1, hh2⟩ := hhst p hp
    have hfn2 : RLN.Fine ⟨r, l, p⟩ := hfn
    have hX : ∀ (j : Nat) (x : Stt), (refH l p l.length)[j]? = some x → SttP (refH l p l.length) l.length j x := fun j x hx => refH_sttP hE hp hx
    have hXl := refH_len l p l.length
    have hac := accH_bd (X := refH l p l.length) (fun j x hx => ⟨⟨(hX j x hx).h0, (hX j x hx).h1⟩, (hX j x hx).c0, (hX j x hx).c1⟩)
    have hmt : ∀ q, q < p → (r.parts.getD q default).kind = (r.parts.getD p default).kind → meetF (refH l p l.length) (refH l q l.length) = false := fun q hq hk => refH_meet hE hp (by omega) (by omega) hk.symm
    have hHs := HR_succ l p
    have hb8 : (p + 1) * 24 ≤ 140737488355328 := by omega
    generalize hXX : refH l p l.length = X at *
    simp -dsimp [hpi]
    repeat' (first | omega | (simp -dsimp [E9, ri, cellp, ints, hpi, hp, hpt, hpt', Pt.row, rnE_dec', hfn2, hh1, hh2]) | (refine Also.intro ?_ fun _ => ?_) | (refine Hold.intro fun _ => ?_) | (refine And.intro ?_ ?_))
    refine awp_loop [73, 74, 75, 76, 79, 80, 81, 82, 83, 84, 85, 86, 87, 88, 89, 90, 91, 92, 93, 94, 95, 96, 97, 98, 99, 100, 101, 102, 103, 104, 105, 106, 107, 108, 109, 110, 111, 112, 113, 114, 115, 116, 117, 118, 119, 120, 121, 122, 123, 124, 125, 4, 126, 127, 128, 129, 130, 131, 132, 11, 133, 134, 135, 136, 137, 138, 139, 12, 77, 78, 13] (fun j : Fin (X.length + 1) => [(13, (true, .int .i64 (j.1 : Nat))), (11, (true, .int .i64 (pt.hours + (accH X j.1).1))), (12, (true, .int .i64 (pt.cycles + (accH X j.1).2)))])
      (fun j => hps [(1077, { base := 0, blks := [{ z := 1, els := HR l p, ty := 57 }] }), (902, { base := 0, blks := [{ z := 4, els := [[.sl 3 (r.kinds.map Kd.row), .sl 4 (r.parts.map Pt.row), .int .i64 r.machines, .sl 2 (r.orders.map Od.row)]], ty := 38 }] })] noH) (fun j => X.length - j.1) ⟨0, by omega⟩ ?_ ?_ ?_
    · simp [okAll, okv, accH]
    · exact (by (try simp -dsimp only [hpush_noH, hpush_hps, hps_over]); refine hle_hps ?_; simp -dsimp [allK, ]; repeat' (first | (refine And.intro ?_ ?_) | (refine sLe.same ?_ ?_ <;> (simp; done)) | (refine sLe.clear ?_ ?_ <;> (first | (simp; done) | (simp; omega))) | (refine sLe.drop 1 ?_ ?_ ?_ <;> (simp; done))))
    rintro ⟨j, hj⟩
    simp only
    by_cases hj1 : j < X.length
    · have hji : (j : Int) < X.length := by omega
      have hwj : IntKind.wrap .i64 ((j : Int) + 1) = (j + 1 : Nat) := wrap_id (by omega) (by omega)
      obtain ⟨x, hx, hx'⟩ := get_ex hj1
      have hS := hX j x hx
      have hA1 := hac j (by omega)
      have hn : accH X (j + 1) = ((accH X j).1 + x.hours, (accH X j).2 + x.cycles) := by
        have : X.getD j default = x := by simp [List.getD, hx]
        simp only [accH, this]
      have s0 : ¬ x.fro < 0 := by have := hS.f0; omega
      have s1 : ¬ x.to ≤ x.fro := by have := hS.ft; omega
      have s2 : ¬ (l.length : Int) < x.to := by have := hS.tn; omega
      have sh0 := hS.h0
      have sh1 := hS.h1
      have sc0 := hS.c0
      have sc1 := hS.c1
      have w1 : IntKind.wrap .i64 (pt.hours + (accH X j).1 + x.hours) = pt.hours + ((accH X j).1 + x.hours) := by rw [wrap_id (by omega) (by omega)]; omega
      have w2 : IntKind.wrap .i64 (pt.cycles + (accH X j).2 + x.cycles) = pt.cycles + ((accH X j).2 + x.cycles) := by rw [wrap_id (by omega) (by omega)]; omega
      rcases j with _ | j
      · have hne : ¬ X = [] := by rintro rfl; simp at hj1
        have hji0 : (0 : Int) < X.length := by omega
        have hac0 : accH X 0 = (0, 0) := rfl
        rw [hac0] at w1 w2 hn
        simp -dsimp [hji, hji0, hne, hac0]
        repeat' (first | omega | (simp -dsimp [E9, ri, cellp, ints, hji, hji0, hne, hac0, hj1, hx, hx', Stt.row, s0, s1, s2, hwj, w1, w2]) | (refine Also.intro ?_ fun _ => ?_) | (refine Hold.intro fun _ => ?_) | (refine And.intro ?_ ?_))
        refine ⟨⟨0 + 1, by omega⟩, tle_chain rfl ?_, (by (try simp -dsimp only [hpush_noH, hpush_hps, hps_over]); refine hle_hps ?_; simp -dsimp [allK, ]; repeat' (first | (refine And.intro ?_ ?_) | (refine sLe.same ?_ ?_ <;> (simp; done)) | (refine sLe.clear ?_ ?_ <;> (first | (simp; done) | (simp; omega))) | (refine sLe.drop 1 ?_ ?_ ?_ <;> (simp; done)))), by simp only; omega⟩
        simp [okAll, okv, hn]
        exact ⟨wrap_id (by omega) (by omega), wrap_id (by omega) (by omega), wrap_id (by omega) (by omega)⟩
      · have hj2 : j < X.length := by omega
        obtain ⟨y, hy, hy'⟩ := get_ex hj2
        have s3 : ¬ x.fro ≤ y.to := by have := hS.nx y (by simpa using hy) (by omega); omega
        have hj0 : (0 : Int) < ((j + 1 : Nat) : Int) := by omega
        have hwq : IntKind.wrap .i64 (((j + 1 : Nat) : Int) - 1) = (j : Nat) := by rw [wrap_id (by omega) (by omega)]; omega
        have hwq2 : IntKind.wrap .i64 (j : Int) = (j : Nat) := wrap_id (by omega) (by omega)
        simp -dsimp [hji]
        repeat' (first | omega | (simp -dsimp [E9, ri, cellp, ints, hji, hj1, hj2, hj0, hx, hx', hy, hy', Stt.row, s0, s1, s2, s3, hwj, hwq, hwq2, w1, w2]) | (refine Also.intro ?_ fun _ => ?_) | (refine Hold.intro fun _ => ?_) | (refine And.intro ?_ ?_))
        refine ⟨⟨j + 1 + 1, by omega⟩, tle_chain rfl ?_, (by (try simp -dsimp only [hpush_noH, hpush_hps, hps_over]); refine hle_hps ?_; simp -dsimp [allK, ]; repeat' (first | (refine And.intro ?_ ?_) | (refine sLe.same ?_ ?_ <;> (simp; done)) | (refine sLe.clear ?_ ?_ <;> (first | (simp; done) | (simp; omega))) | (refine sLe.drop 1 ?_ ?_ ?_ <;> (simp; done)))), by simp only; omega⟩
        simp [okAll, okv, hn]
        exact hwj
    have hjn : ¬ (j : Int) < X.length := by omega
    have hje : j = X.length := by omega
    subst hje
    simp -dsimp [hjn]
    repeat' (first | omega | (simp -dsimp [E9, ri, cellp, ints, hjn, huU, hug, hug', cycV]) | (refine Also.intro ?_ fun _ => ?_) | (refine Hold.intro fun _ => ?_) | (refine And.intro ?_ ?_))
    refine awp_loop [148, 149, 150, 153, 154, 155, 156, 157, 158, 159, 160, 161, 162, 163, 164, 165, 166, 167, 168, 169, 170, 171, 172, 173, 4, 151, 152, 14] (fun q : Fin (p + 1) => [(14, (true, .int .i64 (q.1 : Nat)))])
      (fun q => hps [(1077, { base := 0, blks := [{ z := 1, els := HR l p, ty := 57 }] }), (902, { base := 0, blks := [{ z := 4, els := [[.sl 3 (r.kinds.map Kd.row), .sl 4 (r.parts.map Pt.row), .int .i64 r.machines, .sl 2 (r.orders.map Od.row)]], ty := 38 }] })] noH) (fun q => p - q.1) ⟨0, by omega⟩ ?_ ?_ ?_
    · simp [okAll, okv]
    · exact (by (try simp -dsimp only [hpush_noH, hpush_hps, hps_over]); refine hle_hps ?_; simp -dsimp [allK, ]; repeat' (first | (refine And.intro ?_ ?_) | (refine sLe.same ?_ ?_ <;> (simp; done)) | (refine sLe.clear ?_ ?_ <;> (first | (simp; done) | (simp; omega))) | (refine sLe.drop 1 ?_ ?_ ?_ <;> (simp; done))))
    rintro ⟨q, hq⟩
    simp only
    by_cases hq1 : q < p
    · have hqi : (q : Int) < p := by omega
      have hwq : IntKind.wrap .i64 ((q : Int) + 1) = (q + 1 : Nat) := wrap_id (by omega) (by omega)
      have hqp : q < r.parts.length := by omega
      have hqpi : (q : Int) < r.parts.length := by omega
      obtain ⟨qt, hqt, hqt'⟩ := get_ex hqp
      have hgq : r.parts.getD q default = qt := by simp [List.getD, hqt]
      have hHg := HR_get l hq1
      have hHg' := (List.getElem?_eq_some_iff.1 hHg).2
      have hHl := HR_len l p
      have hql := refH_len l q l.length
      have hXl2 : X.length ≤ 1000000 := by omega
      have hql2 : (refH l q l.length).length ≤ 1000000 := by omega
      by_cases hkk : qt.kind = pt.kind
      · have hm := hmt q hq1 (by rw [hgq, hgp, hkk])
        simp -dsimp [hqi]
        repeat' (first | omega | (simp -dsimp [E9, ri, cellp, ints, hqi, hq1, hqp, hqpi, hqt, hqt', hp, hpi, hpt, hpt', Pt.row, hkk, hHg, hHg', hHl, mtE_dec, hXl2, hql2, hm, hwq]) | (refine Also.intro ?_ fun _ => ?_) | (refine Hold.intro fun _ => ?_) | (refine And.intro ?_ ?_))
        refine ⟨⟨q + 1, by omega⟩, tle_chain rfl ?_, (by (try simp -dsimp only [hpush_noH, hpush_hps, hps_over]); refine hle_hps ?_; simp -dsimp [allK, ]; repeat' (first | (refine And.intro ?_ ?_) | (refine sLe.same ?_ ?_ <;> (simp; done)) | (refine sLe.clear ?_ ?_ <;> (first | (simp; done) | (simp; omega))) | (refine sLe.drop 1 ?_ ?_ ?_ <;> (simp; done)))), by simp only; omega⟩
        simp [okAll, okv]
      · have hkk' : (qt.kind = pt.kind) = False := eq_false hkk
        simp -dsimp [hqi]
        repeat' (first | omega | (simp -dsimp [E9, ri, cellp, ints, hqi, hq1, hqp, hqpi, hqt, hqt', hp, hpi, hpt, hpt', Pt.row, hkk', hwq]) | (refine Also.intro ?_ fun _ => ?_) | (refine Hold.intro fun _ => ?_) | (refine And.intro ?_ ?_))
        refine ⟨⟨q + 1, by omega⟩, tle_chain rfl ?_, (by (try simp -dsimp only [hpush_noH, hpush_hps, hps_over]); refine hle_hps ?_; simp -dsimp [allK, ]; repeat' (first | (refine And.intro ?_ ?_) | (refine sLe.same ?_ ?_ <;> (simp; done)) | (refine sLe.clear ?_ ?_ <;> (first | (simp; done) | (simp; omega))) | (refine sLe.drop 1 ?_ ?_ ?_ <;> (simp; done)))), by simp only; omega⟩
        simp [okAll, okv]
    have hqn : ¬ (q : Int) < p := by omega
    have hHl := HR_len l p
    simp -dsimp [hqn]
    repeat' (first | omega | (simp -dsimp [E9, ri, cellp, ints, hqn, hHl, hb8, hwp]) | (refine Also.intro ?_ fun _ => ?_) | (refine Hold.intro fun _ => ?_) | (refine And.intro ?_ ?_))
    refine ⟨⟨p + 1, by omega⟩, tle_kept (kept_upds rfl (kept_forget rfl (kept_upds rfl (kept_forget rfl (kept_upds rfl kept_base))))) ?_, (by (try simp -dsimp only [hpush_noH, hpush_hps, hps_over]); refine hle_hps ?_; simp -dsimp [allK, hHs]; repeat' (first | (refine And.intro ?_ ?_) | (refine sLe.same ?_ ?_ <;> (simp; done)) | (refine sLe.clear ?_ ?_ <;> (first | (simp; done) | (simp; omega))) | (refine sLe.drop 1 ?_ ?_ ?_ <;> (simp; done)))), by simp only; omega⟩
    simp [okAll, okv]
  have hpn : ¬ (p : Int) < r.parts.length := by omega
  have hpe : p = r.parts.length := by omega
  subst hpe
  clear hhst hUg hUl
  have hpsu := fun k m pl => sumP_bd hE hl2 k m pl
  have htot := fun (k m pl : Nat) hk hpl => opE_sumP (k := k) (m := m) (pl := pl) hE hk hpl
  have hflb := fun (t : Nat) (ht : t ≤ l.length) => opE_flb hE ht
  have hHl := HR_len l r.parts.length
  obtain ⟨M, hM⟩ : ∃ M : Nat, r.machines = M := ⟨r.machines.toNat, by omega⟩
  simp -dsimp [hpn]
  repeat' (first | omega | (simp -dsimp [E9, ri, cellp, ints, hpn]) | (refine Also.intro ?_ fun _ => ?_) | (refine Hold.intro fun _ => ?_) | (refine And.intro ?_ ?_))
  clear hUU
  refine awp_loop [178, 179, 180, 181, 16, 17, 184, 185, 186, 187, 190, 191, 192, 193, 194, 195, 196, 197, 198, 199, 200, 201, 202, 203, 204, 205, 206, 207, 208, 209, 210, 211, 188, 189, 18, 212, 213, 214, 215, 216, 19, 219, 220, 221, 222, 223, 224, 225, 226, 20, 21, 229, 230, 231, 232, 233, 22, 236, 237, 238, 239, 240, 241, 242, 245, 246, 247, 248, 249, 250, 251, 23, 252, 253, 254, 255, 256, 257, 258, 259, 260, 261, 262, 263, 264, 265, 266, 267, 268, 269, 270, 271, 272, 273, 274, 275, 243, 244, 234, 235, 276, 277, 278, 4, 227, 228, 217, 218, 182, 183, 15] (fun m : NC M => [(15, (true, .int .i64 (m.n : Nat)))]) (fun m => hps [(1077, { base := 0, blks := [{ z := 1, els := HR l r.parts.length, ty := 57 }] }), (902, { base := 0, blks := [{ z := 4, els := [[.sl 3 (r.kinds.map Kd.row), .sl 4 (r.parts.map Pt.row), .int .i64 r.machines, .sl 2 (r.orders.map Od.row)]], ty := 38 }] }), (923, { base := m.c, blks := [] })] noH) (fun m => M - m.n) ⟨0, 0, by omega⟩ ?_ ?_ ?_
  · simp [okAll, okv]
  · exact (by (try simp -dsimp only [hpush_noH, hpush_hps, hps_over]); refine hle_hps ?_; simp -dsimp [allK, ]; repeat' (first | (refine And.intro ?_ ?_) | (refine sLe.same ?_ ?_ <;> (simp; done)) | (refine sLe.clear ?_ ?_ <;> (first | (simp; done) | (simp; omega))) | (refine sLe.drop 1 ?_ ?_ ?_ <;> (simp; done))))
  rintro ⟨m, c0, hm⟩
  simp only
  by_cases hm1 : m < M
  case neg =>
    have hmn : ¬ (m : Int) < r.machines := by omega
    simp -dsimp [hmn]
    repeat' (first | omega | (simp -dsimp [E9, ri, cellp, ints, hmn]) | (refine Also.intro ?_ fun _ => ?_) | (refine Hold.intro fun _ => ?_) | (refine And.intro ?_ ?_))
  have hmi : (m : Int) < r.machines := by omega
  have hwm : IntKind.wrap .i64 ((m : Int) + 1) = (m + 1 : Nat) := wrap_id (by omega) (by omega)
  simp -dsimp [hmi]
  repeat' (first | omega | (simp -dsimp [E9, ri, cellp, ints, hmi]) | (refine Also.intro ?_ fun _ => ?_) | (refine Hold.intro fun _ => ?_) | (refine And.intro ?_ ?_))
  refine awp_loop [184, 185, 186, 187, 190, 191, 192, 193, 194, 195, 196, 197, 198, 199, 200, 201, 202, 203, 204, 205, 206, 207, 208, 209, 210, 211, 16, 188, 189, 17] (fun i : Fin (l.length + 1) => [(17, (true, .int .i64 (i.1 : Nat))), (16, (true, .int .i64 (sumF l m 0 i.1).1))]) (fun _ => hps [(1077, { base := 0, blks := [{ z := 1, els := HR l r.parts.length, ty := 57 }] }), (902, { base := 0, blks := [{ z := 4, els := [[.sl 3 (r.kinds.map Kd.row), .sl 4 (r.parts.map Pt.row), .int .i64 r.machines, .sl 2 (r.orders.map Od.row)]], ty := 38 }] }), (923, { base := c0, blks := [] })] noH) (fun i => l.length - i.1) ⟨0, by omega⟩ ?_ ?_ ?_
  · simp [okAll, okv, sumF]
  · exact (by (try simp -dsimp only [hpush_noH, hpush_hps, hps_over]); refine hle_hps ?_; simp -dsimp [allK, ]; repeat' (first | (refine And.intro ?_ ?_) | (refine sLe.same ?_ ?_ <;> (simp; done)) | (refine sLe.clear ?_ ?_ <;> (first | (simp; done) | (simp; omega))) | (refine sLe.drop 1 ?_ ?_ ?_ <;> (simp; done))))
  rintro ⟨i, hi⟩
  simp only
  by_cases hi1 : i < l.length
  · have hii : (i : Int) < l.length := by omega
    have hwi : IntKind.wrap .i64 ((i : Int) + 1) = (i + 1 : Nat) := wrap_id (by omega) (by omega)
    obtain ⟨u, hu, hu'⟩ := get_ex hi1
    have hua : wkAt l i = u := by simp [wkAt, List.getD, hu]
    have hnx := sumF_next (l := l) (m : Int) (i := 0) (j := i) (Nat.zero_le _)
    have hb1 := hflb i (by omega) m 0
    have hb2 := hflb (i + 1) (by omega) m 0
    by_cases u1 : u.kind = 1
    case neg =>
      have u1' : (u.kind = 1) = False := eq_false u1
      have hf0 : fl1 l m i = (0, 0) := by simp [fl1, hua, u1]
      rw [hf0] at hnx
      simp only [Int.add_zero] at hnx
      simp -dsimp [hii]
      repeat' (first | omega | (simp -dsimp [E9, ri, cellp, ints, hii, hi1, hu, hu', Wk.row, u1', hwi]) | (refine Also.intro ?_ fun _ => ?_) | (refine Hold.intro fun _ => ?_) | (refine And.intro ?_ ?_))
      refine ⟨⟨i + 1, by omega⟩, tle_chain rfl ?_, (by (try simp -dsimp only [hpush_noH, hpush_hps, hps_over]); refine hle_hps ?_; simp -dsimp [allK, ]; repeat' (first | (refine And.intro ?_ ?_) | (refine sLe.same ?_ ?_ <;> (simp; done)) | (refine sLe.clear ?_ ?_ <;> (first | (simp; done) | (simp; omega))) | (refine sLe.drop 1 ?_ ?_ ?_ <;> (simp; done)))), by simp only; omega⟩
      simp [okAll, okv, hnx]
    by_cases ub : u.a = (m : Int)
    case neg =>
      have ub' : (u.a = (m : Int)) = False := eq_false ub
      have hf0 : fl1 l m i = (0, 0) := by simp [fl1, hua, ub]
      rw [hf0] at hnx
      simp only [Int.add_zero] at hnx
      simp -dsimp [hii]
      repeat' (first | omega | (simp -dsimp [E9, ri, cellp, ints, hii, hi1, hu, hu', Wk.row, u1, ub', hwi]) | (refine Also.intro ?_ fun _ => ?_) | (refine Hold.intro fun _ => ?_) | (refine And.intro ?_ ?_))
      refine ⟨⟨i + 1, by omega⟩, tle_chain rfl ?_, (by (try simp -dsimp only [hpush_noH, hpush_hps, hps_over]); refine hle_hps ?_; simp -dsimp [allK, ]; repeat' (first | (refine And.intro ?_ ?_) | (refine sLe.same ?_ ?_ <;> (simp; done)) | (refine sLe.clear ?_ ?_ <;> (first | (simp; done) | (simp; omega))) | (refine sLe.drop 1 ?_ ?_ ?_ <;> (simp; done)))), by simp only; omega⟩
      simp [okAll, okv, hnx]
    have hf0 : fl1 l m i = (u.b, u.c) := by simp [fl1, hua, u1, ub]
    rw [hf0] at hnx
    rw [hnx] at hb2
    simp only at hb2
    have w1 : IntKind.wrap .i64 ((sumF l m 0 i).1 + u.b) = (sumF l m 0 i).1 + u.b := wrap_id (by omega) (by omega)
    simp -dsimp [hii]
    repeat' (first | omega | (simp -dsimp [E9, ri, cellp, ints, hii, hi1, hu, hu', Wk.row, u1, ub, hwi, w1]) | (refine Also.intro ?_ fun _ => ?_) | (refine Hold.intro fun _ => ?_) | (refine And.intro ?_ ?_))
    refine ⟨⟨i + 1, by omega⟩, tle_chain rfl ?_, (by (try simp -dsimp only [hpush_noH, hpush_hps, hps_over]); refine hle_hps ?_; simp -dsimp [allK, ]; repeat' (first | (refine And.intro ?_ ?_) | (refine sLe.same ?_ ?_ <;> (simp; done)) | (refine sLe.clear ?_ ?_ <;> (first | (simp; done) | (simp; omega))) | (refine sLe.drop 1 ?_ ?_ ?_ <;> (simp; done)))), by simp only; omega⟩
    simp [okAll, okv, hnx]
  have hin : ¬ (i : Int) < l.length := by omega
  have hie : i = l.length := by omega
  subst hie
  simp -dsimp [hin]
  repeat' (first | omega | (simp -dsimp [E9, ri, cellp, ints, hin]) | (refine Also.intro ?_ fun _ => ?_) | (refine Hold.intro fun _ => ?_) | (refine And.intro ?_ ?_))
  refine awp_loop [212, 213, 214, 215, 216, 19, 219, 220, 221, 222, 223, 224, 225, 226, 20, 21, 229, 230, 231, 232, 233, 22, 236, 237, 238, 239, 240, 241, 242, 245, 246, 247, 248, 249, 250, 251, 23, 252, 253, 254, 255, 256, 257, 258, 259, 260, 261, 262, 263, 264, 265, 266, 267, 268, 269, 270, 271, 272, 273, 274, 275, 243, 244, 234, 235, 276, 277, 278, 4, 227, 228, 217, 218, 18] (fun k : NC r.kinds.length => [(18, (true, .int .i64 (k.n : Nat)))]) (fun k => hps [(1077, { base := 0, blks := [{ z := 1, els := HR l r.parts.length, ty := 57 }] }), (902, { base := 0, blks := [{ z := 4, els := [[.sl 3 (r.kinds.map Kd.row), .sl 4 (r.parts.map Pt.row), .int .i64 r.machines, .sl 2 (r.orders.map Od.row)]], ty := 38 }] }), (923, { base := k.c, blks := [] })] noH) (fun k => r.kinds.length - k.n) ⟨0, c0, by omega⟩ ?_ ?_ ?_
  · simp [okAll, okv]
  · exact (by (try simp -dsimp only [hpush_noH, hpush_hps, hps_over]); refine hle_hps ?_; simp -dsimp [allK, ]; repeat' (first | (refine And.intro ?_ ?_) | (refine sLe.same ?_ ?_ <;> (simp; done)) | (refine sLe.clear ?_ ?_ <;> (first | (simp; done) | (simp; omega))) | (refine sLe.drop 1 ?_ ?_ ?_ <;> (simp; done))))
  rintro ⟨k, c1, hk2⟩
  simp only
  by_cases hk1 : k < r.kinds.length
  case neg =>
    have hkn : ¬ (k : Int) < r.kinds.length := by omega
    simp -dsimp [hkn]
    repeat' (first | omega | (simp -dsimp [E9, ri, cellp, ints, hkn, hwm]) | (refine Also.intro ?_ fun _ => ?_) | (refine Hold.intro fun _ => ?_) | (refine And.intro ?_ ?_))
    refine ⟨⟨m + 1, c1, by omega⟩, tle_kept (kept_upds rfl (kept_forget rfl (kept_upds rfl (kept_forget rfl (kept_upds rfl kept_base))))) ?_, (by (try simp -dsimp only [hpush_noH, hpush_hps, hps_over]); refine hle_hps ?_; simp -dsimp [allK, ]; repeat' (first | (refine And.intro ?_ ?_) | (refine sLe.same ?_ ?_ <;> (simp; done)) | (refine sLe.clear ?_ ?_ <;> (first | (simp; done) | (simp; omega))) | (refine sLe.drop 1 ?_ ?_ ?_ <;> (simp; done)))), by simp only; omega⟩
    simp [okAll, okv]
  have hki : (k : Int) < r.kinds.length := by omega
  have hwk : IntKind.wrap .i64 ((k : Int) + 1) = (k + 1 : Nat) := wrap_id (by omega) (by omega)
  obtain ⟨kd, hkd, hkd'⟩ := get_ex hk1
  have hgk : r.kinds.getD k default = kd := by simp [List.getD, hkd]
  have hkb := v6 kd (hkd' ▸ List.getElem_mem hk1)
  obtain ⟨PL, hPL⟩ : ∃ PL : Nat, kd.places = PL := ⟨kd.places.toNat, by omega⟩
  simp -dsimp [hki]
  repeat' (first | omega | (simp -dsimp [E9, ri, cellp, ints, hki]) | (refine Also.intro ?_ fun _ => ?_) | (refine Hold.intro fun _ => ?_) | (refine And.intro ?_ ?_))
  refine awp_loop [219, 220, 221, 222, 223, 224, 225, 226, 20, 21, 229, 230, 231, 232, 233, 22, 236, 237, 238, 239, 240, 241, 242, 245, 246, 247, 248, 249, 250, 251, 23, 252, 253, 254, 255, 256, 257, 258, 259, 260, 261, 262, 263, 264, 265, 266, 267, 268, 269, 270, 271, 272, 273, 274, 275, 243, 244, 234, 235, 276, 277, 278, 4, 227, 228, 19] (fun g : NC PL => [(19, (true, .int .i64 (g.n : Nat)))]) (fun g => hps [(1077, { base := 0, blks := [{ z := 1, els := HR l r.parts.length, ty := 57 }] }), (902, { base := 0, blks := [{ z := 4, els := [[.sl 3 (r.kinds.map Kd.row), .sl 4 (r.parts.map Pt.row), .int .i64 r.machines, .sl 2 (r.orders.map Od.row)]], ty := 38 }] }), (923, { base := g.c, blks := [] })] noH) (fun g => PL - g.n) ⟨0, c1, by omega⟩ ?_ ?_ ?_
  · simp [okAll, okv]
  · exact (by (try simp -dsimp only [hpush_noH, hpush_hps, hps_over]); refine hle_hps ?_; simp -dsimp [allK, ]; repeat' (first | (refine And.intro ?_ ?_) | (refine sLe.same ?_ ?_ <;> (simp; done)) | (refine sLe.clear ?_ ?_ <;> (first | (simp; done) | (simp; omega))) | (refine sLe.drop 1 ?_ ?_ ?_ <;> (simp; done))))
  rintro ⟨pl, c2, hpl⟩
  simp only
  by_cases hpl1 : pl < PL
  case neg =>
    have hpn2 : ¬ (pl : Int) < kd.places := by omega
    simp -dsimp [hki]
    repeat' (first | omega | (simp -dsimp [E9, ri, cellp, ints, hki, hk1, hkd, hkd', Kd.row, hpn2, hwk]) | (refine Also.intro ?_ fun _ => ?_) | (refine Hold.intro fun _ => ?_) | (refine And.intro ?_ ?_))
    refine ⟨⟨k + 1, c2, by omega⟩, tle_kept (kept_upds rfl (kept_forget rfl (kept_upds rfl kept_base))) ?_, (by (try simp -dsimp only [hpush_noH, hpush_hps, hps_over]); refine hle_hps ?_; simp -dsimp [allK, ]; repeat' (first | (refine And.intro ?_ ?_) | (refine sLe.same ?_ ?_ <;> (simp; done)) | (refine sLe.clear ?_ ?_ <;> (first | (simp; done) | (simp; omega))) | (refine sLe.drop 1 ?_ ?_ ?_ <;> (simp; done)))), by simp only; omega⟩
    simp [okAll, okv]
  have hpli : (pl : Int) < kd.places := by omega
  have hwpl : IntKind.wrap .i64 ((pl : Int) + 1) = (pl + 1 : Nat) := wrap_id (by omega) (by omega)
  have htt := htot k m pl hk1 (by rw [hgk]; exact hpli)
  have hsb := hpsu k m pl
  simp -dsimp [hki]
  repeat' (first | omega | (simp -dsimp [E9, ri, cellp, ints, hki, hk1, hkd, hkd', Kd.row, hpli]) | (refine Also.intro ?_ fun _ => ?_) | (refine Hold.intro fun _ => ?_) | (refine And.intro ?_ ?_))
  refine awp_loop [229, 230, 231, 232, 233, 22, 236, 237, 238, 239, 240, 241, 242, 245, 246, 247, 248, 249, 250, 251, 23, 252, 253, 254, 255, 256, 257, 258, 259, 260, 261, 262, 263, 264, 265, 266, 267, 268, 269, 270, 271, 272, 273, 274, 275, 20, 243, 244, 234, 235, 21] (fun q : NC r.parts.length => [(21, (true, .int .i64 (q.n : Nat))), (20, (true, .int .i64 (sumP r l k m pl q.n)))]) (fun q => hps [(1077, { base := 0, blks := [{ z := 1, els := HR l r.parts.length, ty := 57 }] }), (902, { base := 0, blks := [{ z := 4, els := [[.sl 3 (r.kinds.map Kd.row), .sl 4 (r.parts.map Pt.row), .int .i64 r.machines, .sl 2 (r.orders.map Od.row)]], ty := 38 }] }), (923, { base := q.c, blks := [] })] noH) (fun q => r.parts.length - q.n) ⟨0, c2, by omega⟩ ?_ ?_ ?_
  · simp [okAll, okv, sumP]
  · exact (by (try simp -dsimp only [hpush_noH, hpush_hps, hps_over]); refine hle_hps ?_; simp -dsimp [allK, ]; repeat' (first | (refine And.intro ?_ ?_) | (refine sLe.same ?_ ?_ <;> (simp; done)) | (refine sLe.clear ?_ ?_ <;> (first | (simp; done) | (simp; omega))) | (refine sLe.drop 1 ?_ ?_ ?_ <;> (simp; done))))
  rintro ⟨q, c3, hq⟩
  simp only
  by_cases hq1 : q < r.parts.length
  case neg =>
    have hqn : ¬ (q : Int) < r.parts.length := by omega
    have hqe : q = r.parts.length := by omega
    subst hqe
    simp -dsimp [hqn]
    repeat' (first | omega | (simp -dsimp [E9, ri, cellp, ints, hqn, htt, hwpl]) | (refine Also.intro ?_ fun _ => ?_) | (refine Hold.intro fun _ => ?_) | (refine And.intro ?_ ?_))
    refine ⟨⟨pl + 1, c3, by omega⟩, tle_kept (kept_upds rfl (kept_forget rfl (kept_upds rfl kept_base))) ?_, (by (try simp -dsimp only [hpush_noH, hpush_hps, hps_over]); refine hle_hps ?_; simp -dsimp [allK, ]; repeat' (first | (refine And.intro ?_ ?_) | (refine sLe.same ?_ ?_ <;> (simp; done)) | (refine sLe.clear ?_ ?_ <;> (first | (simp; done) | (simp; omega))) | (refine sLe.drop 1 ?_ ?_ ?_ <;> (simp; done)))), by simp only; omega⟩
    simp [okAll, okv]
  have hqi : (q : Int) < r.parts.length := by omega
  have hwq : IntKind.wrap .i64 ((q : Int) + 1) = (q + 1 : Nat) := wrap_id (by omega) (by omega)
  obtain ⟨pt, hpt, hpt'⟩ := get_ex hq1
  have hgp : r.parts.getD q default = pt := by simp [List.getD, hpt]
  have hX : ∀ (j : Nat) (x : Stt), (refH l q l.length)[j]? = some x → SttP (refH l q l.length) l.length j x := fun j x hx => refH_sttP hE hq1 hx
  have hXl := refH_len l q l.length
  have hsh := sumH_bd m pl (refH l q l.length) (fun j x hx => ⟨(hX j x hx).h0, (hX j x hx).h1⟩)
  have hHg := HR_get l hq1
  have hHg' := (List.getElem?_eq_some_iff.1 hHg).2
  have hsq := hsb q (by omega)
  have hPs : sumP r l k m pl (q + 1) = sumP r l k m pl q + if pt.kind = (k : Int) then sumH m pl (refH l q l.length) (refH l q l.length).length else 0 := by
    show sumP r l k m pl q + _ = _; rw [hgp]
  generalize sumP r l k m pl q = S at *
  generalize hXX : refH l q l.length = X at *
  simp -dsimp [hqi]
  repeat' (first | omega | (simp -dsimp [E9, ri, cellp, ints, hqi]) | (refine Also.intro ?_ fun _ => ?_) | (refine Hold.intro fun _ => ?_) | (refine And.intro ?_ ?_))
  refine awp_loop [236, 237, 238, 239, 240, 241, 242, 245, 246, 247, 248, 249, 250, 251, 23, 252, 253, 254, 255, 256, 257, 258, 259, 260, 261, 262, 263, 264, 265, 266, 267, 268, 269, 270, 271, 272, 273, 274, 275, 20, 243, 244, 22] (fun j : NC X.length => [(22, (true, .int .i64 (j.n : Nat))), (20, (true, .int .i64 (S + if pt.kind = (k : Int) then sumH m pl X j.n else 0)))]) (fun j => hps [(1077, { base := 0, blks := [{ z := 1, els := HR l r.parts.length, ty := 57 }] }), (902, { base := 0, blks := [{ z := 4, els := [[.sl 3 (r.kinds.map Kd.row), .sl 4 (r.parts.map Pt.row), .int .i64 r.machines, .sl 2 (r.orders.map Od.row)]], ty := 38 }] }), (923, { base := j.c, blks := [] })] noH) (fun j => X.length - j.n) ⟨0, c3, by omega⟩ ?_ ?_ ?_
  · simp [okAll, okv, sumH]
  · exact (by (try simp -dsimp only [hpush_noH, hpush_hps, hps_over]); refine hle_hps ?_; simp -dsimp [allK, ]; repeat' (first | (refine And.intro ?_ ?_) | (refine sLe.same ?_ ?_ <;> (simp; done)) | (refine sLe.clear ?_ ?_ <;> (first | (simp; done) | (simp; omega))) | (refine sLe.drop 1 ?_ ?_ ?_ <;> (simp; done))))
  rintro ⟨j, c4, hj⟩
  simp only
  by_cases hj1 : j < X.length
  case neg =>
    have hjn : ¬ (j : Int) < X.length := by omega
    have hje : j = X.length := by omega
    subst hje
    simp -dsimp [hqi]
    repeat' (first | omega | (simp -dsimp [E9, ri, cellp, ints, hqi, hq1, hHg, hHg', hHl, hjn, hwq]) | (refine Also.intro ?_ fun _ => ?_) | (refine Hold.intro fun _ => ?_) | (refine And.intro ?_ ?_))
    refine ⟨⟨q + 1, c4, by omega⟩, tle_kept (kept_upds rfl (kept_forget rfl (kept_upds rfl kept_base))) ?_, (by (try simp -dsimp only [hpush_noH, hpush_hps, hps_over]); refine hle_hps ?_; simp -dsimp [allK, ]; repeat' (first | (refine And.intro ?_ ?_) | (refine sLe.same ?_ ?_ <;> (simp; done)) | (refine sLe.clear ?_ ?_ <;> (first | (simp; done) | (simp; omega))) | (refine sLe.drop 1 ?_ ?_ ?_ <;> (simp; done)))), by simp only; omega⟩
    simp [okAll, okv, hPs]
  have hji : (j : Int) < X.length := by omega
  have hwj : IntKind.wrap .i64 ((j : Int) + 1) = (j + 1 : Nat) := wrap_id (by omega) (by omega)
  obtain ⟨x, hx, hx'⟩ := get_ex hj1
  have hshj := hsh j (by omega)
  have hxb := hX j x hx
  have hx0 := hxb.h0
  have hx1 := hxb.h1
  have hnx : sumH m pl X (j + 1) = sumH m pl X j + if x.machine = (m : Int) ∧ x.place = (pl : Int) then x.hours else 0 := by
    have : X.getD j default = x := by simp [List.getD, hx]
    simp only [sumH, this]
  by_cases g1 : pt.kind = (k : Int)
  case neg =>
    have g1' : (pt.kind = (k : Int)) = False := eq_false g1
    simp -dsimp [hqi]
    repeat' (first | omega | (simp -dsimp [E9, ri, cellp, ints, hqi, hq1, hHg, hHg', hHl, hji, hj1, hx, hx', Stt.row, hpt, hpt', Pt.row, g1', hwj]) | (refine Also.intro ?_ fun _ => ?_) | (refine Hold.intro fun _ => ?_) | (refine And.intro ?_ ?_))
    refine ⟨⟨j + 1, c4 + 1, by omega⟩, tle_chain rfl ?_, (by (try simp -dsimp only [hpush_noH, hpush_hps, hps_over]); refine hle_hps ?_; simp -dsimp [allK, ]; repeat' (first | (refine And.intro ?_ ?_) | (refine sLe.same ?_ ?_ <;> (simp; done)) | (refine sLe.clear ?_ ?_ <;> (first | (simp; done) | (simp; omega))) | (refine sLe.drop 1 ?_ ?_ ?_ <;> (simp; done)))), by simp only; omega⟩
    simp [okAll, okv, g1']
  by_cases g2 : x.machine = (m : Int)
  case neg =>
    have g2' : (x.machine = (m : Int)) = False := eq_false g2
    rw [if_neg (fun h => g2 h.1)] at hnx
    simp -dsimp [hqi]
    repeat' (first | omega | (simp -dsimp [E9, ri, cellp, ints, hqi, hq1, hHg, hHg', hHl, hji, hj1, hx, hx', Stt.row, hpt, hpt', Pt.row, g1, g2', hwj]) | (refine Also.intro ?_ fun _ => ?_) | (refine Hold.intro fun _ => ?_) | (refine And.intro ?_ ?_))
    refine ⟨⟨j + 1, c4 + 1, by omega⟩, tle_chain rfl ?_, (by (try simp -dsimp only [hpush_noH, hpush_hps, hps_over]); refine hle_hps ?_; simp -dsimp [allK, ]; repeat' (first | (refine And.intro ?_ ?_) | (refine sLe.same ?_ ?_ <;> (simp; done)) | (refine sLe.clear ?_ ?_ <;> (first | (simp; done) | (simp; omega))) | (refine sLe.drop 1 ?_ ?_ ?_ <;> (simp; done)))), by simp only; omega⟩
    simp [okAll, okv, g1, hnx]
  by_cases g3 : x.place = (pl : Int)
  case neg =>
    have g3' : (x.place = (pl : Int)) = False := eq_false g3
    rw [if_neg (fun h => g3 h.2)] at hnx
    simp -dsimp [hqi]
    repeat' (first | omega | (simp -dsimp [E9, ri, cellp, ints, hqi, hq1, hHg, hHg', hHl, hji, hj1, hx, hx', Stt.row, hpt, hpt', Pt.row, g1, g2, g3', hwj]) | (refine Also.intro ?_ fun _ => ?_) | (refine Hold.intro fun _ => ?_) | (refine And.intro ?_ ?_))
    refine ⟨⟨j + 1, c4 + 1, by omega⟩, tle_chain rfl ?_, (by (try simp -dsimp only [hpush_noH, hpush_hps, hps_over]); refine hle_hps ?_; simp -dsimp [allK, ]; repeat' (first | (refine And.intro ?_ ?_) | (refine sLe.same ?_ ?_ <;> (simp; done)) | (refine sLe.clear ?_ ?_ <;> (first | (simp; done) | (simp; omega))) | (refine sLe.drop 1 ?_ ?_ ?_ <;> (simp; done)))), by simp only; omega⟩
    simp [okAll, okv, g1, hnx]
  rw [if_pos ⟨g2, g3⟩] at hnx
  have hw : IntKind.wrap .i64 (S + sumH m pl X j + x.hours) = S + (sumH m pl X j + x.hours) := by rw [wrap_id (by omega) (by omega)]; omega
  simp -dsimp [hqi]
  repeat' (first | omega | (simp -dsimp [E9, ri, cellp, ints, hqi, hq1, hHg, hHg', hHl, hji, hj1, hx, hx', Stt.row, hpt, hpt', Pt.row, g1, g2, g3, hw, hwj]) | (refine Also.intro ?_ fun _ => ?_) | (refine Hold.intro fun _ => ?_) | (refine And.intro ?_ ?_))
  refine ⟨⟨j + 1, c4 + 1, by omega⟩, tle_chain rfl ?_, (by (try simp -dsimp only [hpush_noH, hpush_hps, hps_over]); refine hle_hps ?_; simp -dsimp [allK, ]; repeat' (first | (refine And.intro ?_ ?_) | (refine sLe.same ?_ ?_ <;> (simp; done)) | (refine sLe.clear ?_ ?_ <;> (first | (simp; done) | (simp; omega))) | (refine sLe.drop 1 ?_ ?_ ?_ <;> (simp; done)))), by simp only; omega⟩
  simp [okAll, okv, g1, hnx]
theorem ok9 : FnOK Tryd.prog 9 (.pure lawCpS) := pure_fn (E := E9) rfl (.cons ok15 (.cons ok19 (.cons ok22 (.cons ok30 (.cons ok38 .nil))))) (ok := []) (fn := Tryd.f9) (by kernel_rfl) (by kernel_rfl) (by kernel_rfl) (by kernel_rfl) rfl (fun _ _ => by simp) b9
end Go.Sx

