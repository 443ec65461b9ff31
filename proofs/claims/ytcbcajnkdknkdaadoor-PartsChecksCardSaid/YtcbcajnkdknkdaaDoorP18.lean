/- A part of a proof; no conditions. -/
import Derived.Test.YtcbcajnkdknkdaaDoorP17
import Derived.Test.YtcbcajnkdknkdaaDoorP16
set_option linter.unusedSimpArgs false
set_option linter.unusedVariables false
set_option linter.unusedSectionVars false
section
/- Parts: Damage. No conditions. -/
set_option linter.unusedSimpArgs false
set_option maxRecDepth 100000
set_option maxHeartbeats 2000000
namespace Go.Sx
open Go.Proofs
attribute [local irreducible] awp

/-- Between two cycles. -/
structure DamO where
  sum : Int
  n : Nat
  m : Nat
def stepsB (S : List (Int × Int)) : Site := { base := 0, blks := [{ z := 1, els := [[.sl 2 (S.map cycV)]], ty := 26 }] }
def damC (S : List (Int × Int)) (s : DamO) : List (Nat × Site) :=
  [(4003, stepsB S), (4004, { base := 0, blks := [{ z := 1, els := [[.int .i64 s.sum]], ty := 3 }] }), (4009, { base := s.n, blks := [] }), (4010, { base := s.n, blks := [] }), (4012, { base := s.m, blks := [] }), (7301, { base := s.n, blks := [] })]
theorem damC_inj (S : List (Int × Int)) (s s' : DamO) (h : ∀ k ∈ [4003, 4004, 4009, 4010, 4012, 7301], hps (damC S s) noH k = hps (damC S s') noH k) : s = s' := by
  have h1 := h 4004 (by simp)
  have h2 := h 4009 (by simp)
  have h3 := h 4012 (by simp)
  obtain ⟨a, b, c⟩ := s
  obtain ⟨a', b', c'⟩ := s'
  simp [damC, hps] at h1 h2 h3
  rw [h1, h2, h3]
abbrev damPre (S C : List (Int × Int)) (s : DamO) (x : List V) : Prop := (∃ p, x = cycV p ∧ 1 ≤ p.2 ∧ p.2 ≤ 2) ∧ 0 ≤ s.sum ∧ s.sum ≤ 2000000 * s.n ∧ s.n ≤ 1000000
abbrev damNxt (S : List (Int × Int)) (s : DamO) (x : List V) : DamO := { sum := s.sum + (cycOf x).2 * stepAt S (cycOf x).1 S.length, n := s.n + 1, m := s.m + 1000 }
theorem dam_run {S C : List (Int × Int)} (hok : okSteps S = true) (hC : ∀ c ∈ C, 1 ≤ c.2 ∧ c.2 ≤ 2) (hl : C.length ≤ 1000000) : ∀ (j k : Nat) (s : DamO), j + k = C.length → s.sum = dmgTo S C k → s.n = k →
    (runS (damPre S C) (fun _ _ => true) (damNxt S) s ((C.drop k).map cycV)).1 ∧ (runS (damPre S C) (fun _ _ => true) (damNxt S) s ((C.drop k).map cycV)).2.1 = true ∧ (runS (damPre S C) (fun _ _ => true) (damNxt S) s ((C.drop k).map cycV)).2.2.sum = dmgTo S C C.length
  | 0, k, s, h1, h2, h3 => by
    have hk : k = C.length := by omega
    subst hk
    rw [List.drop_length]
    exact ⟨trivial, rfl, h2⟩
  | j + 1, k, s, h1, h2, h3 => by
    have hk : k < C.length := by omega
    have hg : C.getD k (0, 0) = C[k] := by simp [List.getD, List.getElem?_eq_getElem hk]
    have hT : dmgTo S C (k + 1) = dmgTo S C k + (C.getD k (0, 0)).2 * stepAt S (C.getD k (0, 0)).1 S.length := rfl
    rw [hg] at hT
    obtain ⟨b1, b2⟩ := dmg_bd hok hC k (by omega)
    obtain ⟨r1, r2, r3⟩ := dam_run hok hC hl j (k + 1) (damNxt S s (cycV C[k])) (by omega) (by simp only [damNxt, cycOf_V]; rw [h2, hT]) (by simp only [damNxt]; omega)
    rw [List.drop_eq_getElem_cons hk]
    simp only [List.map_cons, runS]
    exact ⟨⟨⟨⟨_, rfl, hC _ (List.getElem_mem hk)⟩, by omega, by omega, by omega⟩, r1⟩, r2, r3⟩
/-- Between two steps. -/
structure DamI where
  sum : Int
  m : Nat
def damIC (z w : Int) (n : Nat) (s : DamI) : List (Nat × Site) :=
  [(4004, { base := 0, blks := [{ z := 1, els := [[.int .i64 s.sum]], ty := 3 }] }), (4009, { base := n, blks := [{ z := 1, els := [[.int .i64 z]], ty := 3 }] }), (4010, { base := n, blks := [{ z := 1, els := [[.int .i64 w]], ty := 3 }] }), (4012, { base := s.m, blks := [] })]
theorem damIC_inj (z w : Int) (n : Nat) (s s' : DamI) (h : ∀ k ∈ [4004, 4009, 4010, 4012], hps (damIC z w n s) noH k = hps (damIC z w n s') noH k) : s = s' := by
  have h1 := h 4004 (by simp)
  have h3 := h 4012 (by simp)
  obtain ⟨a, c⟩ := s
  obtain ⟨a', c'⟩ := s'
  simp [damIC, hps] at h1 h3
  rw [h1, h3]
def stpOf (x : List V) : Int × Int := cycOf (x.getD 1 .top).cs
theorem stpOf_V (j : Int) (p : Int × Int) : stpOf [.int .i64 j, .agg (cycV p)] = p := rfl
abbrev damIPre (a : Int) (s : DamI) (x : List V) : Prop := (∃ j p, x = [.int .i64 j, .agg (cycV p)] ∧ 0 ≤ p.2 ∧ p.2 ≤ 1000000) ∧ s.sum = a
abbrev damIGo (z : Int) (_ : DamI) (x : List V) : Bool := !decide ((stpOf x).1 ≤ z)
abbrev damINxt (z w : Int) (s : DamI) (x : List V) : DamI := { sum := if (stpOf x).1 ≤ z then s.sum + w * (stpOf x).2 else s.sum, m := s.m + 1 }
theorem damI_run {S : List (Int × Int)} (hok : okSteps S = true) (z w a : Int) : ∀ (n : Nat) (s : DamI), n ≤ S.length → s.sum = a →
    (runS (damIPre a) (damIGo z) (damINxt z w) s (bkTo S n)).1 ∧ (runS (damIPre a) (damIGo z) (damINxt z w) s (bkTo S n)).2.2.sum = a + w * stepAt S z n ∧ (runS (damIPre a) (damIGo z) (damINxt z w) s (bkTo S n)).2.2.m ≤ s.m + n
  | 0, s, _, h => ⟨trivial, by simp [bkTo, runS, stepAt, h], by simp [bkTo, runS]⟩
  | n + 1, s, hn, h => by
    have hg : S.getD n (0, 0) = S[n] := by simp [List.getD, List.getElem?_eq_getElem (show n < S.length by omega)]
    have hso := List.all_eq_true.1 hok n (by simp; omega)
    simp only [stepOk, withinB, Bool.and_eq_true, decide_eq_true_eq] at hso
    rw [hg] at hso
    rw [bkTo, stepAt, hg]
    simp only [runS, stpOf_V, damIGo, damINxt]
    by_cases hz : S[n].1 ≤ z
    · simp only [eq_true hz, decide_true, Bool.not_true, if_true]
      refine ⟨⟨⟨_, _, rfl, hso.1.2⟩, h⟩, by rw [h], by omega⟩
    · obtain ⟨r1, r2, r3⟩ := damI_run hok z w a n { sum := s.sum, m := s.m + 1 } (by omega) h
      simp only [eq_false hz, decide_false, Bool.not_false, if_false]
      refine ⟨⟨⟨⟨_, _, rfl, hso.1.2⟩, h⟩, r1⟩, r2, by simp only at r3; omega⟩
noncomputable abbrev E40 : Env := { P := Tryd.prog, fn := tbl [(48, .pure serS), (52, .pure withinS), (49, .heap countS), (81, .iter cntS), (73, .heap backS), (91, .iter bckS)], own := [], key := 4000, nt := 73 }
theorem b40 : PureBody E40 [] Tryd.f40 damS := by
  refine pb ?_
  rintro ⟨L, S⟩ ⟨p1, p2⟩
  simp only at p1 p2
  by_cases h0 : serE L = 0
  case neg =>
    have hd : damE L S = serE L := by rw [damE, if_neg h0]
    simp -dsimp [Tryd.f40, E40, h0, hd, prs]
    repeat' (first | omega | (simp -dsimp [E40, ri, cellp, ints, p1, p2, h0, hd, prs]) | (refine Also.intro ?_ fun _ => ?_) | (refine Hold.intro fun _ => ?_) | (refine And.intro ?_ ?_))
  by_cases h8 : 8 < S.length
  · have h8' : (8 : Int) < S.length := by omega
    have hd : damE L S = 1 := by rw [damE, if_pos h0, if_pos h8]
    simp -dsimp [Tryd.f40, E40, h0, hd, h8, h8', prs]
    repeat' (first | omega | (simp -dsimp [E40, ri, cellp, ints, p1, p2, h0, hd, h8, h8', prs]) | (refine Also.intro ?_ fun _ => ?_) | (refine Hold.intro fun _ => ?_) | (refine And.intro ?_ ?_))
  have h8' : ((8 : Int) < S.length) = False := eq_false (by omega)
  have hcl := cycles_len L
  have hcw := cyc_w (turn L) []
  rw [show cyc (turn L) [] = cycles L from rfl] at hcw
  have hL3 : L.length ≤ 300 := by
    unfold serE at h0
    split at h0
    · cases h0
    · omega
  simp -dsimp [Tryd.f40, E40, h0, h8', prs]
  repeat' (first | omega | (simp -dsimp [E40, ri, cellp, ints, p1, p2, h0, h8', prs]) | (refine Also.intro ?_ fun _ => ?_) | (refine Hold.intro fun _ => ?_) | (refine And.intro ?_ ?_))
  refine awp_loop [24, 25, 26, 27, 8, 7, 28, 29, 30, 31, 32, 33, 34, 35, 36, 37, 38, 39, 40, 41, 42, 43, 44, 45, 46, 47, 48, 49, 50, 51, 52, 5, 53, 23] (fun k : { k : Nat // k ≤ S.length ∧ ∀ j, j < k → stepOk S j = true } => [(23, (true, .int .i64 (k.1 : Nat)))]) (fun k => hps [(4003, { base := 0, blks := [{ z := 1, els := [[.sl 2 (S.map cycV)]], ty := 26 }] }), (4004, { base := 0, blks := [{ z := 1, els := [[.int .i64 0]], ty := 3 }] }), (4008, { base := k.1, blks := [] })] noH) (fun k => S.length - k.1) ⟨0, by omega, fun _ h => by omega⟩ ?_ ?_ ?_
  · simp [okAll, okv]
  · exact (by (try simp -dsimp only [hpush_noH, hpush_hps, hps_over]); refine hle_hps ?_; simp -dsimp [allK, ]; repeat' (first | (refine And.intro ?_ ?_) | (refine sLe.same ?_ ?_ <;> (simp; done)) | (refine sLe.clear ?_ ?_ <;> (first | (simp; done) | (simp; omega))) | (refine sLe.drop 1 ?_ ?_ ?_ <;> (simp; done))))
  rintro ⟨k, hk, hall⟩
  simp only
  by_cases hk1 : k < S.length
  · have hki : (k : Int) < S.length := by omega
    have wk : IntKind.wrap .i64 ((k : Int) + 1) = (k + 1 : Nat) := wrap_id (by omega) (by omega)
    have e1 : S[k]? = some S[k] := List.getElem?_eq_getElem hk1
    have g1 : S.getD k (0, 0) = S[k] := by simp [List.getD, e1]
    have hso : stepOk S k = (withinB S[k].1 0 1000000 && withinB S[k].2 0 1000000 && !(decide (0 < k) && decide (S[k].1 ≤ (S.getD (k - 1) (0, 0)).1))) := by rw [stepOk, g1]
    have hbad : stepOk S k = false → damE L S = 1 := by
      intro hb
      have : okSteps S = false := by
        cases ho : okSteps S with
        | false => rfl
        | true => rw [List.all_eq_true.1 ho k (by simp; omega)] at hb; cases hb
      rw [damE, if_pos h0, if_neg h8, this]; rfl
    generalize hx : S[k] = x at *
    obtain ⟨x1, x2⟩ := x
    simp only at hso
    cases hw1 : withinB x1 0 1000000
    · have hd := hbad (by rw [hso, hw1]; rfl)
      simp -dsimp [hki]
      repeat' (first | omega | (simp -dsimp [E40, ri, cellp, ints, hki, hk1, e1, hx, p2, hw1, hd, cycV]) | (refine Also.intro ?_ fun _ => ?_) | (refine Hold.intro fun _ => ?_) | (refine And.intro ?_ ?_))
    cases hw2 : withinB x2 0 1000000
    · have hd := hbad (by rw [hso, hw1, hw2]; rfl)
      simp -dsimp [hki]
      repeat' (first | omega | (simp -dsimp [E40, ri, cellp, ints, hki, hk1, e1, hx, p2, hw1, hw2, hd, cycV]) | (refine Also.intro ?_ fun _ => ?_) | (refine Hold.intro fun _ => ?_) | (refine And.intro ?_ ?_))
    by_cases hk0 : k = 0
    · have hs1 : stepOk S k = true := by rw [hso, hw1, hw2, hk0]; rfl
      have hkp : ((0 : Int) < k) = False := eq_false (by omega)
      have hkd0 : decide (0 < k) = false := by simp; omega
      simp -dsimp [hki]
      repeat' (first | omega | (simp -dsimp [E40, ri, cellp, ints, hki, hk1, hkp, hkd0, e1, hx, p2, hw1, hw2, wk, cycV]) | (refine Also.intro ?_ fun _ => ?_) | (refine Hold.intro fun _ => ?_) | (refine And.intro ?_ ?_))
      refine ⟨k + 1, tle_chain rfl ?_, (by (try simp -dsimp only [hpush_noH, hpush_hps, hps_over]); refine hle_hps ?_; simp -dsimp [allK, ]; repeat' (first | (refine And.intro ?_ ?_) | (refine sLe.same ?_ ?_ <;> (simp; done)) | (refine sLe.clear ?_ ?_ <;> (first | (simp; done) | (simp; omega))) | (refine sLe.drop 1 ?_ ?_ ?_ <;> (simp; done)))), ⟨by omega, fun j hj => ?_⟩, by omega⟩
      · simp [okAll, okv]
      · by_cases hjk : j = k
        · subst hjk; exact hs1
        · exact hall j (by omega)
    have hkp : ((0 : Int) < k) = True := eq_true (by omega)
    have h2 : k - 1 < S.length := by omega
    have e2 : S[k - 1]? = some S[k - 1] := List.getElem?_eq_getElem h2
    have g2 : S.getD (k - 1) (0, 0) = S[k - 1] := by simp [List.getD, e2]
    have w1 : IntKind.wrap .i64 ((k : Int) - 1) = (k - 1 : Nat) := by rw [wrap_id (by omega) (by omega)]; omega
    rw [g2] at hso
    generalize hy : S[k - 1] = y at *
    obtain ⟨y1, y2⟩ := y
    simp only at hso
    have hkd : decide (0 < k) = true := by simp; omega
    by_cases hxy : x1 ≤ y1
    · have hd := hbad (by rw [hso, hw1, hw2, hkd, decide_eq_true hxy]; rfl)
      simp -dsimp [hki]
      repeat' (first | omega | (simp -dsimp [E40, ri, cellp, ints, hki, hk1, hkp, h2, e1, e2, w1, hx, hy, hxy, p2, hw1, hw2, hd, cycV]) | (refine Also.intro ?_ fun _ => ?_) | (refine Hold.intro fun _ => ?_) | (refine And.intro ?_ ?_))
    · have hs1 : stepOk S k = true := by rw [hso, hw1, hw2, hkd, decide_eq_false hxy]; rfl
      have hxy' : (x1 ≤ y1) = False := eq_false hxy
      simp -dsimp [hki]
      repeat' (first | omega | (simp -dsimp [E40, ri, cellp, ints, hki, hk1, hkp, h2, e1, e2, w1, hx, hy, hxy', p2, hw1, hw2, wk, cycV]) | (refine Also.intro ?_ fun _ => ?_) | (refine Hold.intro fun _ => ?_) | (refine And.intro ?_ ?_))
      refine ⟨k + 1, tle_chain rfl ?_, (by (try simp -dsimp only [hpush_noH, hpush_hps, hps_over]); refine hle_hps ?_; simp -dsimp [allK, ]; repeat' (first | (refine And.intro ?_ ?_) | (refine sLe.same ?_ ?_ <;> (simp; done)) | (refine sLe.clear ?_ ?_ <;> (first | (simp; done) | (simp; omega))) | (refine sLe.drop 1 ?_ ?_ ?_ <;> (simp; done)))), ⟨by omega, fun j hj => ?_⟩, by omega⟩
      · simp [okAll, okv]
      · by_cases hjk : j = k
        · subst hjk; exact hs1
        · exact hall j (by omega)
  have hke : k = S.length := by omega
  subst hke
  have hok : okSteps S = true := List.all_eq_true.2 fun j hj => hall j (by simpa using hj)
  have hd : damE L S = 0 := by rw [damE, if_pos h0, if_neg h8, if_pos hok]
  have hcnt : ∀ H, countS.go [.sl 1 (L.map ri)] H = ⟨True, .fn 81 [.bptr 4901 (hnext H 4901) 1 0 0], hpush H 4901 { z := 1, els := [[.sl 1 (L.map ri)]], ty := 22 }⟩ := fun _ => rfl
  simp -dsimp [hd]
  repeat' (first | omega | (simp -dsimp [E40, ri, cellp, ints, hd, p2, hcnt]) | (refine Also.intro ?_ fun _ => ?_) | (refine Hold.intro fun _ => ?_) | (refine And.intro ?_ ?_))
  have hser : allB L (-1000000) 1000000 = true := by
    unfold serE at h0
    split at h0
    · cases h0
    · split at h0
      · assumption
      · cases h0
  have hbd : Bd L := by
    intro x hx
    have := List.all_eq_true.1 hser x hx
    simp [withinB] at this; omega
  obtain ⟨hr1, hr2, hr3⟩ := dam_run hok hcw (by omega) (cycles L).length 0 { sum := 0, n := 0, m := 0 } (by omega) rfl rfl
  rw [List.drop_zero] at hr1 hr2 hr3
  refine awp_range (LC := damC S) (keys := [4003, 4004, 4009, 4010, 4012, 7301]) (pre := damPre S (cycles L)) (go := fun _ _ => true) (nxt := damNxt S) (damC_inj S) (fun _ => rfl) { sum := 0, n := 0, m := 0 } .normal ((cycles L).map cycV) (own := [8120, 8159, 8432]) (ro := [4901]) (dec := cntDec) rfl (by simp; rfl) rfl (by decide) (by decide) (by decide) ⟨rfl, rfl⟩ ?_ ?_ ?_ hr1 ?_ ?_ ?_
  · intro k hk
    simp at hk
    rcases hk with rfl | rfl | rfl | rfl | rfl | rfl <;> rfl
  · intro k hk
    simp at hk
    rcases hk with rfl | rfl | rfl <;> rfl
  · refine ⟨⟨⟨rfl, rfl, rfl, rfl⟩, rfl, L, rfl, by omega, hbd⟩, ?_⟩
    simp [cntDec]
  · rintro ⟨a, n, m⟩ x hb ⟨⟨⟨z, w⟩, rfl, hw1, hw2⟩, hs1, hs2, hs3⟩ hy1 hy2
    refine ⟨rfl, ?_⟩
    simp only at hw1 hw2 hs1 hs2 hs3
    simp only [damNxt, cycOf_V]
    have hbk : ∀ H, backS.go [.sl 2 (S.map cycV)] H = ⟨True, .fn 91 [.bptr 7301 (hnext H 7301) 1 0 0], hpush H 7301 { z := 1, els := [[.sl 2 (S.map cycV)]], ty := 26 }⟩ := fun H => by simp [backS]
    simp -dsimp [E40, setT, cycV, damC, stepsB]
    repeat' (first | omega | (simp -dsimp [E40, ri, cellp, ints, cycV, hbk]) | (refine Also.intro ?_ fun _ => ?_) | (refine Hold.intro fun _ => ?_) | (refine And.intro ?_ ?_))
    obtain ⟨q1, q2, q3⟩ := damI_run hok z w a S.length { sum := a, m := m } (Nat.le_refl _) rfl
    generalize hfin : (runS (damIPre a) (damIGo z) (damINxt z w) { sum := a, m := m } (bkTo S S.length)).2.2 = fin at *
    obtain ⟨fs, fm⟩ := fin
    simp only at q2 q3
    subst q2
    have hfm : fm ≤ m + 8 := by omega
    have hle : HLe (hps [(4004, { base := 0, blks := [{ z := 1, els := [[.int .i64 (a + w * stepAt S z S.length)]], ty := 3 }] }), (4009, { base := n, blks := [{ z := 1, els := [[.int .i64 z]], ty := 3 }] }), (4010, { base := n, blks := [{ z := 1, els := [[.int .i64 w]], ty := 3 }] }), (4012, { base := fm, blks := [] }), (7301, { base := n, blks := [{ z := 1, els := [[V.sl 2 (S.map cycV)]], ty := 26 }] }),
            (4010, { base := n, blks := [{ z := 1, els := [[V.int IntKind.i64 w]], ty := 3 }] }),
            (4009, { base := n, blks := [{ z := 1, els := [[V.int IntKind.i64 z]], ty := 3 }] }),
            (4003, { base := 0, blks := [{ z := 1, els := [[V.sl 2 (S.map cycV)]], ty := 26 }] }),
            (4004, { base := 0, blks := [{ z := 1, els := [[V.int IntKind.i64 a]], ty := 3 }] }),
            (4009, { base := n, blks := [] }), (4010, { base := n, blks := [] }), (4012, { base := m, blks := [] }),
            (7301, { base := n, blks := [] })] hb) (hps [(4003, { base := 0, blks := [{ z := 1, els := [[V.sl 2 (S.map cycV)]], ty := 26 }] }), (4004, { base := 0, blks := [{ z := 1, els := [[V.int IntKind.i64 (a + w * stepAt S z S.length)]], ty := 3 }] }), (4009, { base := n + 1, blks := [] }), (4010, { base := n + 1, blks := [] }), (4012, { base := m + 1000, blks := [] }), (7301, { base := n + 1, blks := [] })] hb) := (by (try simp -dsimp only [hpush_noH, hpush_hps, hps_over]); refine hle_hpsb ?_; simp -dsimp [allK, ]; repeat' (first | (refine And.intro ?_ ?_) | (refine sLe.same ?_ ?_ <;> (simp; done)) | (refine sLe.clear ?_ ?_ <;> (first | (simp; done) | (simp; omega))) | (refine sLe.drop 1 ?_ ?_ ?_ <;> (simp; done))))
    have hps0 : ∀ H : Hp, hps [] H = H := fun _ => rfl
    refine awp_range (LC := damIC z w n) (keys := [4004, 4009, 4010, 4012]) (pre := damIPre a) (go := damIGo z) (nxt := damINxt z w) (damIC_inj z w n) (fun _ => rfl) { sum := a, m := m } (.exit 4) (bkTo S S.length) (own := []) (ro := [7301]) (dec := backDec) rfl (by simp; rfl) rfl (by decide) (by decide) (by decide) ?_ ?_ ?_ ?_ q1 ?_ ?_ ?_
    · simp [hps, YS, hy1, hy2]
    · intro k hk
      simp at hk
      rcases hk with rfl | rfl | rfl | rfl <;> simp [hps, damIC]
    · intro k hk; simp at hk
    · simp [backDec, hget_hps, hps_cons, prs, V.toPrs]
      exact ⟨⟨S, rfl, by omega⟩, congrArg (bkTo · S.length) ((List.map_congr_left (fun p _ => cycOf_V p)).trans (List.map_id S))⟩
    · rintro ⟨a', m'⟩ x hb2 ⟨⟨j, ⟨x1, x2⟩, rfl, hp1, hp2⟩, hsum⟩ hz1 hz2
      simp only at hsum hp1 hp2
      subst hsum
      refine ⟨rfl, ?_⟩
      simp only [damIGo, damINxt, stpOf_V]
      have hw : w = 1 ∨ w = 2 := by omega
      have ww : IntKind.wrap .i64 (w * x2) = w * x2 := by rcases hw with e | e <;> rw [e] <;> exact wrap_id (by omega) (by omega)
      have wa : IntKind.wrap .i64 (a' + w * x2) = a' + w * x2 := by rcases hw with e | e <;> rw [e] <;> exact wrap_id (by omega) (by omega)
      by_cases hxz : x1 ≤ z
      · have hlT : HLe (hps [(4004, { base := 0, blks := [{ z := 1, els := [[V.int IntKind.i64 (a' + w * x2)]], ty := 3 }] }), (4012, { base := m', blks := [{ z := 2, els := [[V.int IntKind.i64 x1, V.int IntKind.i64 x2]], ty := 30 }] }), (4004, { base := 0, blks := [{ z := 1, els := [[V.int IntKind.i64 (a')]], ty := 3 }] }), (4009, { base := n, blks := [{ z := 1, els := [[V.int IntKind.i64 z]], ty := 3 }] }), (4010, { base := n, blks := [{ z := 1, els := [[V.int IntKind.i64 w]], ty := 3 }] }), (4012, { base := m', blks := [] })] hb2) (hps [(4004, { base := 0, blks := [{ z := 1, els := [[V.int IntKind.i64 (a' + w * x2)]], ty := 3 }] }), (4009, { base := n, blks := [{ z := 1, els := [[V.int IntKind.i64 z]], ty := 3 }] }), (4010, { base := n, blks := [{ z := 1, els := [[V.int IntKind.i64 w]], ty := 3 }] }), (4012, { base := m' + 1, blks := [] })] hb2) := (by (try simp -dsimp only [hpush_noH, hpush_hps, hps_over]); refine hle_hpsb ?_; simp -dsimp [allK, ]; repeat' (first | (refine And.intro ?_ ?_) | (refine sLe.same ?_ ?_ <;> (simp; done)) | (refine sLe.clear ?_ ?_ <;> (first | (simp; done) | (simp; omega))) | (refine sLe.drop 1 ?_ ?_ ?_ <;> (simp; done))))
        simp -dsimp [E40, setT, cycV, damIC, eq_true hxz]
        repeat' (first | omega | (simp -dsimp [E40, ri, cellp, ints, cycV, ww, wa, eq_true hxz, hlT]) | (refine Also.intro ?_ fun _ => ?_) | (refine Hold.intro fun _ => ?_) | (refine And.intro ?_ ?_))
      · have hlF : HLe (hps [(4012, { base := m', blks := [{ z := 2, els := [[V.int IntKind.i64 x1, V.int IntKind.i64 x2]], ty := 30 }] }), (4004, { base := 0, blks := [{ z := 1, els := [[V.int IntKind.i64 (a')]], ty := 3 }] }), (4009, { base := n, blks := [{ z := 1, els := [[V.int IntKind.i64 z]], ty := 3 }] }), (4010, { base := n, blks := [{ z := 1, els := [[V.int IntKind.i64 w]], ty := 3 }] }), (4012, { base := m', blks := [] })] hb2) (hps [(4004, { base := 0, blks := [{ z := 1, els := [[V.int IntKind.i64 (a')]], ty := 3 }] }), (4009, { base := n, blks := [{ z := 1, els := [[V.int IntKind.i64 z]], ty := 3 }] }), (4010, { base := n, blks := [{ z := 1, els := [[V.int IntKind.i64 w]], ty := 3 }] }), (4012, { base := m' + 1, blks := [] })] hb2) := (by (try simp -dsimp only [hpush_noH, hpush_hps, hps_over]); refine hle_hpsb ?_; simp -dsimp [allK, ]; repeat' (first | (refine And.intro ?_ ?_) | (refine sLe.same ?_ ?_ <;> (simp; done)) | (refine sLe.clear ?_ ?_ <;> (first | (simp; done) | (simp; omega))) | (refine sLe.drop 1 ?_ ?_ ?_ <;> (simp; done))))
        simp -dsimp [E40, setT, cycV, damIC, eq_false hxz]
        repeat' (first | omega | (simp -dsimp [E40, ri, cellp, ints, cycV, eq_false hxz, hlF]) | (refine Also.intro ?_ fun _ => ?_) | (refine Hold.intro fun _ => ?_) | (refine And.intro ?_ ?_))
    · intro _
      rw [hfin]
      simp -dsimp [damIC, hps_app, hps0]
      repeat' (first | omega | (simp -dsimp [E40, ri, cellp, ints, hle, hps0]) | (refine Also.intro ?_ fun _ => ?_) | (refine Hold.intro fun _ => ?_) | (refine And.intro ?_ ?_))
    · intro _
      refine ⟨by simp, ?_⟩
      rw [hfin]
      simp -dsimp [damIC, hps_app, hps0]
      repeat' (first | omega | (simp -dsimp [E40, ri, cellp, ints, hle, hps0]) | (refine Also.intro ?_ fun _ => ?_) | (refine Hold.intro fun _ => ?_) | (refine And.intro ?_ ?_))
  · intro _
    simp -dsimp [damC, stepsB, hps_app]
    repeat' (first | omega | (simp -dsimp [E40, ri, cellp, ints, hr3]) | (refine Also.intro ?_ fun _ => ?_) | (refine Hold.intro fun _ => ?_) | (refine And.intro ?_ ?_))
  · intro h
    rw [hr2] at h; cases h
theorem ok40 : FnOK Tryd.prog 40 (.pure damS) := pure_fn (E := E40) rfl (.cons ok48 (.cons ok52 (.cons ok49 (.cons ok81 (.cons ok73 (.cons ok91 .nil)))))) (ok := []) (fn := Tryd.f40) (by kernel_rfl) (by kernel_rfl) (by kernel_rfl) (by kernel_rfl) rfl (fun _ _ => by simp) b40
end Go.Sx
end
section
/- Parts: the look at the examples. No conditions. -/
set_option linter.unusedSimpArgs false
set_option linter.unusedSectionVars false
set_option maxRecDepth 100000
set_option maxHeartbeats 2000000
namespace Go.Sx
open Go.Proofs
attribute [local irreducible] HLe
attribute [local simp] hps_app

def exR : Reg := { kinds := [⟨100, 50, 1⟩, ⟨1000, 1000, 2⟩], parts := [⟨0, 90, 10, true⟩, ⟨0, 0, 0, true⟩, ⟨1, 0, 0, true⟩, ⟨1, 0, 0, true⟩], machines := 1, orders := [⟨1, 5⟩] }
def exL : List Wk := [⟨2, 0, 0, 0⟩, ⟨2, 2, 0, 0⟩, ⟨2, 3, 0, 1⟩, ⟨1, 0, 4, 3⟩]
theorem ex_e : longE exR exL 0 2 = 0 := by decide +kernel
theorem ex_f : longF exR exL 0 2 = 6 := by decide +kernel
noncomputable abbrev exS : PSpec := mkP (D := Unit) (fun _ => []) (fun _ => True) fun _ => .tup [.agg [.sl 3 (exR.kinds.map Kd.row), .sl 4 (exR.parts.map Pt.row), .int .i64 exR.machines, .sl 2 (exR.orders.map Od.row)], .sl 4 (exL.map Wk.row)]
noncomputable abbrev E47 : Env := { P := Tryd.prog, fn := tbl [], own := [], key := 4700, nt := 20 }
theorem b47 : PureBody E47 [] Tryd.f47 exS := by
  refine pb ?_
  rintro _ _
  simp -dsimp [Tryd.f47, E47]
  repeat' (first | omega | (simp -dsimp [E47, ri, cellp, ints, exR, exL, Kd.row, Pt.row, Od.row, Wk.row]) | (refine Also.intro ?_ fun _ => ?_) | (refine Hold.intro fun _ => ?_) | (refine And.intro ?_ ?_))
theorem ok47 : FnOK Tryd.prog 47 (.pure exS) := pure_fn (E := E47) rfl LOK.nil (ok := []) (fn := Tryd.f47) (by kernel_rfl) (by kernel_rfl) (by kernel_rfl) (by kernel_rfl) rfl (fun _ _ => by simp) b47
def exC : List Int := [0, 5, 2, 4, 1, 6, 0]
theorem exC_e : serE exC = 0 := by decide +kernel
theorem exC_c : cycles exC = [(2, 2), (4, 2), (6, 1), (6, 1)] := by decide +kernel
noncomputable abbrev worksS : PSpec := mkP (D := Unit) (fun _ => []) (fun _ => True) fun _ => .bool true
noncomputable abbrev E15 : Env := { P := Tryd.prog, fn := tbl [(47, .pure exS), (20, .pure longFS), (16, .pure CyclesS), (18, .pure samePS)], own := [], key := 1500, nt := 41 }
theorem b15 : PureBody E15 [] Tryd.f15 worksS := by
  refine pb ?_
  rintro _ _
  have f1 : RLM.Fine ⟨exR, exL, 0, 2⟩ := by refine ⟨?_, ?_, ?_, ?_⟩ <;> decide +kernel
  have e1 := ex_e
  have e2 := ex_f
  have e3 := exC_e
  have e4 := exC_c
  simp only [exC] at e3 e4
  simp -dsimp [Tryd.f15, E15]
  repeat' (first | omega | (simp -dsimp [E15, ri, cellp, ints, rmE_dec', f1, e1, e2, e3, e4, V.toInts, V.rows, rowInt, V.toPrs, cycV, cycOf, V.toInt, prs]) | (refine Also.intro ?_ fun _ => ?_) | (refine Hold.intro fun _ => ?_) | (refine And.intro ?_ ?_))
theorem ok15 : FnOK Tryd.prog 15 (.pure worksS) := pure_fn (E := E15) rfl (.cons ok47 (.cons ok20 (.cons ok16 (.cons ok18 .nil)))) (ok := []) (fn := Tryd.f15) (by kernel_rfl) (by kernel_rfl) (by kernel_rfl) (by kernel_rfl) rfl (fun _ _ => by simp) b15
end Go.Sx
end
section
/- Parts: Cycles and Damage are the reference's. No conditions. -/
set_option linter.unusedSimpArgs false
set_option linter.unusedSectionVars false
set_option maxRecDepth 100000
set_option maxHeartbeats 2000000
namespace Go.Sx
open Go.Proofs
attribute [local irreducible] HLe
attribute [local simp] hps_app

theorem toPrs_rows (l : List (Int × Int)) : (V.sl 2 (l.map cycV)).toPrs = l := toPrs_prs l
abbrev lawCyS : PSpec := { dom := List Int × List (Int × Int), enc := fun d => [ints d.1, prs d.2], dec := fun l => ((l.getD 0 .top).toInts, (l.getD 1 .top).toPrs), pre := fun d => d.1.length ≤ 9223372036854775807 ∧ d.2.length ≤ 9223372036854775807, res := fun _ => .bool true }
noncomputable abbrev E11 : Env := { P := Tryd.prog, fn := tbl [(15, .pure worksS), (16, .pure CyclesS), (18, .pure samePS), (39, .pure CyclesS), (40, .pure damS), (41, .pure damS)], own := [], key := 1100, nt := 53 }
theorem b11 : PureBody E11 [] Tryd.f11 lawCyS := by
  refine pb ?_
  rintro ⟨l, st⟩ ⟨hl, hs⟩
  simp only at hl hs
  have hc : (if serE l = 0 then cycles l else []).length ≤ 9223372036854775807 := by
    split
    · have := cycles_len l; omega
    · simp
  simp -dsimp [Tryd.f11, E11, prs]
  repeat' (first | omega | (simp -dsimp [E11, ri, cellp, ints, hl, hs, hc, toPrs_rows, prs]) | (refine Also.intro ?_ fun _ => ?_) | (refine Hold.intro fun _ => ?_) | (refine And.intro ?_ ?_))
theorem ok11 : FnOK Tryd.prog 11 (.pure lawCyS) := pure_fn (E := E11) rfl (.cons ok15 (.cons ok16 (.cons ok18 (.cons ok39 (.cons ok40 (.cons ok41 .nil)))))) (ok := []) (fn := Tryd.f11) (by kernel_rfl) (by kernel_rfl) (by kernel_rfl) (by kernel_rfl) rfl (fun _ _ => by simp) b11
end Go.Sx
end
section
/- Parts: the halves of all cycles, and how damage grows. No conditions. -/
set_option linter.unusedSimpArgs false
set_option linter.unusedSectionVars false
namespace Go.Sx

def hsum : List (Int × Int) → Int
  | [] => 0
  | c :: r => c.2 + hsum r
theorem hsum_app : ∀ a b : List (Int × Int), hsum (a ++ b) = hsum a + hsum b
  | [], b => by simp [hsum]
  | c :: a, b => by simp only [List.cons_append, hsum, hsum_app a b]; omega
theorem red_hs : ∀ (n : Nat) (pile : List Int), pile.length = n → hsum (red pile).1 + ((red pile).2.length : Int) = pile.length ∧ (0 < pile.length → 0 < (red pile).2.length) := by
  intro n
  induction n using Nat.strongRecOn with
  | _ n ih =>
    intro pile hn
    by_cases h : 3 ≤ pile.length
    case neg => rw [red_small (by omega)]; simp [hsum]
    by_cases h1 : dist (pile.getD (pile.length - 1) 0) (pile.getD (pile.length - 2) 0) < dist (pile.getD (pile.length - 2) 0) (pile.getD (pile.length - 3) 0)
    · rw [red_stop h h1]; simp [hsum]
    by_cases h3 : pile.length = 3
    · rw [red_half h3 h1]
      obtain ⟨i1, i2⟩ := ih (pile.drop 1).length (by simp; omega) (pile.drop 1) rfl
      have hl : (pile.drop 1).length = 2 := by simp; omega
      simp only [hsum]
      rw [hl] at i1 i2
      exact ⟨by omega, fun _ => i2 (by omega)⟩
    · rw [red_whole (by omega) h1]
      obtain ⟨i1, i2⟩ := ih (pile.take (pile.length - 3) ++ pile.drop (pile.length - 1)).length (by simp; omega) _ rfl
      have hl : (pile.take (pile.length - 3) ++ pile.drop (pile.length - 1)).length = pile.length - 2 := by simp; omega
      simp only [hsum]
      rw [hl] at i1 i2
      exact ⟨by omega, fun _ => i2 (by omega)⟩
theorem tailC_hs (pile : List Int) : hsum (tailC pile) = (pile.length - 1 : Nat) := by
  have : ∀ l : List Nat, hsum (l.map fun i => (dist (pile.getD (i + 1) 0) (pile.getD i 0), 1)) = l.length := by
    intro l
    induction l with
    | nil => rfl
    | cons a r ih => simp only [List.map_cons, hsum, ih, List.length_cons]; omega
  rw [tailC, this, List.length_range]
theorem cyc_hs : ∀ (pts pile : List Int), hsum (cyc pts pile) = (pts.length + pile.length - 1 : Nat)
  | [], pile => by simp [cyc, tailC_hs]
  | p :: r, pile => by
    obtain ⟨h1, h2⟩ := red_hs _ (pile ++ [p]) rfl
    have h3 := cyc_hs r (red (pile ++ [p])).2
    have hl : (pile ++ [p]).length = pile.length + 1 := by simp
    rw [hl] at h1 h2
    have h2 := h2 (by omega)
    rw [cyc, hsum_app, h3]
    simp only [List.length_cons]
    omega
theorem cycles_hs (l : List Int) : hsum (cycles l) = ((turn l).length - 1 : Nat) := by
  have := cyc_hs (turn l) []
  simpa [cycles] using this
theorem dist_nn (a b : Int) : 0 ≤ dist a b := by unfold dist; omega
theorem red_nn : ∀ (n : Nat) (pile : List Int), pile.length = n → ∀ c ∈ (red pile).1, 0 ≤ c.1 := by
  intro n
  induction n using Nat.strongRecOn with
  | _ n ih =>
    intro pile hn
    by_cases h : 3 ≤ pile.length
    case neg => rw [red_small (by omega)]; simp
    by_cases h1 : dist (pile.getD (pile.length - 1) 0) (pile.getD (pile.length - 2) 0) < dist (pile.getD (pile.length - 2) 0) (pile.getD (pile.length - 3) 0)
    · rw [red_stop h h1]; simp
    by_cases h3 : pile.length = 3
    · rw [red_half h3 h1]
      intro c hc
      rcases List.mem_cons.1 hc with rfl | hc
      · exact dist_nn _ _
      · exact ih (pile.drop 1).length (by simp; omega) (pile.drop 1) rfl c hc
    · rw [red_whole (by omega) h1]
      intro c hc
      rcases List.mem_cons.1 hc with rfl | hc
      · exact dist_nn _ _
      · exact ih (pile.take (pile.length - 3) ++ pile.drop (pile.length - 1)).length (by simp; omega) _ rfl c hc
theorem cyc_nn : ∀ (pts pile : List Int), ∀ c ∈ cyc pts pile, 0 ≤ c.1
  | [], pile, c, hc => by
    simp only [cyc, tailC, List.mem_map] at hc
    obtain ⟨_, _, rfl⟩ := hc
    exact dist_nn _ _
  | p :: r, pile, c, hc => by
    rcases List.mem_append.1 hc with hc | hc
    · exact red_nn _ _ rfl c hc
    · exact cyc_nn r _ c hc
theorem dmg_take (S C : List (Int × Int)) : ∀ i, i ≤ C.length → dmgTo S C i = (((C.take i).map fun c => c.2 * stepAt S c.1 S.length)).sum
  | 0, _ => by simp [dmgTo]
  | i + 1, hi => by
    have hg : C.getD i (0, 0) = C[i] := by simp [List.getD, List.getElem?_eq_getElem (show i < C.length by omega)]
    rw [dmgTo, dmg_take S C i (by omega), hg, List.take_add_one, List.getElem?_eq_getElem (show i < C.length by omega)]
    rw [List.map_append, List.sum_append]
    simp only [Option.toList_some, List.map_cons, List.map_nil, List.sum_cons, List.sum_nil]
    omega
def dmgS (S : List (Int × Int)) : List (Int × Int) → Int
  | [] => 0
  | c :: r => c.2 * stepAt S c.1 S.length + dmgS S r
theorem dmg_eq (S C : List (Int × Int)) : dmgTo S C C.length = dmgS S C := by
  rw [dmg_take S C _ (Nat.le_refl _), List.take_length]
  induction C with
  | nil => rfl
  | cons c r ih => simp only [List.map_cons, List.sum_cons, dmgS, ih]
theorem dmgS_seven : ∀ C : List (Int × Int), (∀ c ∈ C, 0 ≤ c.1) → dmgS [(0, 7)] C = 7 * hsum C
  | [], _ => rfl
  | c :: r, h => by
    have h0 := h c (by simp)
    have : stepAt [(0, 7)] c.1 1 = 7 := by simp [stepAt, h0]
    simp only [dmgS, hsum, List.length_cons, List.length_nil, this, dmgS_seven r fun c hc => h c (by simp [hc])]
    omega
theorem dmg_seven (l : List Int) : dmgTo [(0, 7)] (cycles l) (cycles l).length = 7 * ((turn l).length - 1 : Nat) := by
  rw [dmg_eq, dmgS_seven (cycles l) (cyc_nn _ _), cycles_hs]
theorem stepAt_app (S : List (Int × Int)) (m : Int × Int) (z : Int) : ∀ n, n ≤ S.length → stepAt (S ++ [m]) z n = stepAt S z n
  | 0, _ => rfl
  | n + 1, hn => by
    have : (S ++ [m]).getD n (0, 0) = S.getD n (0, 0) := by simp [List.getD, List.getElem?_append_left (show n < S.length by omega)]
    rw [stepAt, stepAt, this, stepAt_app S m z n (by omega)]
theorem stepAt_le {S : List (Int × Int)} {m : Int} (hm : 0 ≤ m) (h : ∀ s ∈ S, s.2 ≤ m) (z : Int) : ∀ n, n ≤ S.length → stepAt S z n ≤ m
  | 0, _ => hm
  | n + 1, hn => by
    rw [stepAt]
    split
    · have : S.getD n (0, 0) = S[n] := by simp [List.getD, List.getElem?_eq_getElem (show n < S.length by omega)]
      rw [this]; exact h _ (List.getElem_mem _)
    · exact stepAt_le hm h z n (by omega)
theorem stepAt_more {S : List (Int × Int)} {m : Int × Int} (hm : 0 ≤ m.2) (h : ∀ s ∈ S, s.2 ≤ m.2) (z : Int) : stepAt S z S.length ≤ stepAt (S ++ [m]) z (S ++ [m]).length := by
  have hl : (S ++ [m]).length = S.length + 1 := by simp
  have hg : (S ++ [m]).getD S.length (0, 0) = m := by simp [List.getD]
  rw [hl, stepAt, hg, stepAt_app S m z _ (Nat.le_refl _)]
  split
  · exact stepAt_le hm h z _ (Nat.le_refl _)
  · exact Int.le_refl _
theorem dmgS_more {S : List (Int × Int)} {m : Int × Int} (hm : 0 ≤ m.2) (h : ∀ s ∈ S, s.2 ≤ m.2) : ∀ C : List (Int × Int), (∀ c ∈ C, 1 ≤ c.2 ∧ c.2 ≤ 2) → dmgS S C ≤ dmgS (S ++ [m]) C
  | [], _ => Int.le_refl _
  | c :: r, hc => by
    have h1 := dmgS_more hm h r fun c k => hc c (by simp [k])
    have h2 := stepAt_more hm h c.1
    have h3 := hc c (by simp)
    simp only [dmgS]
    have : c.2 = 1 ∨ c.2 = 2 := by omega
    rcases this with e | e <;> rw [e] <;> omega
theorem dmg_more {l : List Int} {S : List (Int × Int)} {m : Int × Int} (hm : okSteps (S ++ [m]) = true) (h : ∀ s ∈ S, s.2 ≤ m.2) : dmgTo S (cycles l) (cycles l).length ≤ dmgTo (S ++ [m]) (cycles l) (cycles l).length := by
  rw [dmg_eq, dmg_eq]
  refine dmgS_more ?_ h _ (cyc_w _ _)
  have := List.all_eq_true.1 hm S.length (by simp)
  have hg : (S ++ [m]).getD S.length (0, 0) = m := by simp [List.getD]
  simp only [stepOk, hg, withinB, Bool.and_eq_true, decide_eq_true_eq] at this
  omega
end Go.Sx
end
section
/- Parts: the law about damage. No conditions. -/
set_option linter.unusedSimpArgs false
set_option linter.unusedSectionVars false
set_option maxRecDepth 100000
set_option maxHeartbeats 2000000
namespace Go.Sx
open Go.Proofs
attribute [local irreducible] HLe
attribute [local simp] hps_app

structure DmD where
  l : List Int
  s : List (Int × Int)
  a : Int
  b : Int
  deriving Inhabited
@[simp] def dmE (d : DmD) : List V := [ints d.l, prs d.s, .agg [.int .i64 d.a, .int .i64 d.b]]
theorem prs_inj {a b : List (Int × Int)} (h : prs a = prs b) : a = b := by
  simp only [prs, V.sl.injEq, true_and] at h; exact cycV_inj h
theorem ints_inj {a b : List Int} (h : ints a = ints b) : a = b := by
  simp only [ints, V.sl.injEq, true_and] at h; exact map_ri_inj h
theorem dmE_inj (x y : DmD) (h : dmE x = dmE y) : x = y := by
  obtain ⟨l, s, a, b⟩ := x; obtain ⟨l', s', a', b'⟩ := y
  simp only [dmE, List.cons.injEq, V.agg.injEq, V.int.injEq, true_and, and_true] at h
  rw [ints_inj h.1, prs_inj h.2.1, h.2.2.1, h.2.2.2]
noncomputable abbrev lawDmS : PSpec := mkP dmE (fun d => d.l.length ≤ 9223372036854775807 ∧ d.s.length ≤ 8796093021952) fun _ => .bool true
theorem okSteps_seven : okSteps [(0, 7)] = true := by decide +kernel
theorem toPrs_app (s : List (Int × Int)) (a b : Int) : (V.sl 2 (s.map cycV ++ [[.int .i64 a, .int .i64 b]])).toPrs = s ++ [(a, b)] := by
  have := toPrs_rows (s ++ [(a, b)])
  simpa [cycV] using this
theorem prs_app (s : List (Int × Int)) (a b : Int) : prs (s ++ [(a, b)]) = V.sl 2 (s.map cycV ++ [[.int .i64 a, .int .i64 b]]) := by
  simp [prs, cycV]
theorem toPrs_07 : (V.sl 2 [[.int .i64 0, .int .i64 7]]).toPrs = [(0, 7)] := rfl
def risesTo (s : List (Int × Int)) (b : Int) (k : Nat) : Bool := (s.take k).all fun p => decide (p.2 ≤ b)
noncomputable abbrev E12 : Env := { P := Tryd.prog, fn := tbl [(15, .pure worksS), (17, .pure turnS), (40, .pure damS)], own := [], key := 1200, nt := 82 }
theorem b12 : PureBody E12 [(8, ([], [[0, 1, 2, 3, 4, 5, 6, 7, 8, 9, 10, 11]])), (9, ([], [[0, 1, 2, 3, 4, 5, 6, 7, 8, 9, 10, 11], [0, 1, 3, 2, 4, 5, 6, 7, 8, 9, 10, 11]]))] Tryd.f12 lawDmS := by
  refine pb ?_
  rintro ⟨l, s, a, b⟩ ⟨hl, hs⟩
  simp only at hl hs
  have hs2 : s.length ≤ 9223372036854775807 := by omega
  by_cases hE : damE l s = 0
  case neg =>
    simp -dsimp [Tryd.f12, E12, prs]
    repeat' (first | omega | (simp -dsimp [E12, ri, cellp, ints, hl, hs2, toPrs_rows, prs, hE]) | (refine Also.intro ?_ fun _ => ?_) | (refine Hold.intro fun _ => ?_) | (refine And.intro ?_ ?_))
  have hser : serE l = 0 := by
    unfold damE at hE
    split at hE
    · assumption
    · exact hE
  have hs8 : s.length ≤ 8 := by
    unfold damE at hE
    rw [if_pos hser] at hE
    split at hE
    · omega
    · omega
  have h7 : damE l [(0, 7)] = 0 := by simp [damE, hser, okSteps_seven]
  have hd7 := dmg_seven l
  have htl := turn_len l
  simp -dsimp [Tryd.f12, E12, prs]
  repeat' (first | omega | (simp -dsimp [E12, ri, cellp, ints, hl, hs2, toPrs_rows, prs, hE]) | (refine Also.intro ?_ fun _ => ?_) | (refine Hold.intro fun _ => ?_) | (refine And.intro ?_ ?_))
  refine awp_loop [23, 24, 25, 26, 29, 30, 31, 32, 33, 34, 35, 36, 37, 38, 39, 9, 27, 28, 10] (fun k : Fin (s.length + 1) => [(9, (true, .bool (risesTo s b k.1))), (10, (true, .int .i64 (k.1 : Nat)))]) (fun _ => hps [(1205, { base := 0, blks := [{ z := 2, els := [[.int .i64 a, .int .i64 b]], ty := 30 }] })] noH) (fun k => s.length - k.1) ⟨0, by omega⟩ ?_ ?_ ?_
  · simp [okAll, okv, risesTo]
  · exact (by (try simp -dsimp only [hpush_noH, hpush_hps, hps_over]); refine hle_hps ?_; simp -dsimp [allK, ]; repeat' (first | (refine And.intro ?_ ?_) | (refine sLe.same ?_ ?_ <;> (simp; done)) | (refine sLe.clear ?_ ?_ <;> (first | (simp; done) | (simp; omega))) | (refine sLe.drop 1 ?_ ?_ ?_ <;> (simp; done))))
  rintro ⟨k, hk⟩
  simp only
  by_cases hk1 : k < s.length
  · have hki : (k : Int) < s.length := by omega
    have wk : IntKind.wrap .i64 ((k : Int) + 1) = (k + 1 : Nat) := wrap_id (by omega) (by omega)
    obtain ⟨p, hp, hp'⟩ := get_ex hk1
    have hR : risesTo s b (k + 1) = (risesTo s b k && decide (p.2 ≤ b)) := by simp [risesTo, List.take_add_one, hp]
    cases hr : risesTo s b k
    · rw [hr] at hR
      simp -dsimp [hki]
      repeat' (first | omega | (simp -dsimp [E12, ri, cellp, ints, hki, hk1, hp, hp', wk]) | (refine Also.intro ?_ fun _ => ?_) | (refine Hold.intro fun _ => ?_) | (refine And.intro ?_ ?_))
      refine ⟨⟨k + 1, by omega⟩, tle_chain rfl ?_, (by (try simp -dsimp only [hpush_noH, hpush_hps, hps_over]); refine hle_hps ?_; simp -dsimp [allK, ]; repeat' (first | (refine And.intro ?_ ?_) | (refine sLe.same ?_ ?_ <;> (simp; done)) | (refine sLe.clear ?_ ?_ <;> (first | (simp; done) | (simp; omega))) | (refine sLe.drop 1 ?_ ?_ ?_ <;> (simp; done)))), by simp only; omega⟩
      simp [okAll, okv, hR]
    · rw [hr] at hR
      simp -dsimp [hki]
      repeat' (first | omega | (simp -dsimp [E12, ri, cellp, ints, hki, hk1, hp, hp', wk, cycV]) | (refine Also.intro ?_ fun _ => ?_) | (refine Hold.intro fun _ => ?_) | (refine And.intro ?_ ?_))
      refine ⟨⟨k + 1, by omega⟩, tle_chain rfl ?_, (by (try simp -dsimp only [hpush_noH, hpush_hps, hps_over]); refine hle_hps ?_; simp -dsimp [allK, ]; repeat' (first | (refine And.intro ?_ ?_) | (refine sLe.same ?_ ?_ <;> (simp; done)) | (refine sLe.clear ?_ ?_ <;> (first | (simp; done) | (simp; omega))) | (refine sLe.drop 1 ?_ ?_ ?_ <;> (simp; done)))), by simp only; omega⟩
      simp [okAll, okv, hR]
  · have hkn : ¬ (k : Int) < s.length := by omega
    have hke : k = s.length := by omega
    subst hke
    have hS : ∀ x ∈ s, risesTo s b s.length = true → x.2 ≤ b := by
      intro x hx hr
      rw [risesTo, List.take_length] at hr
      exact of_decide_eq_true (List.all_eq_true.1 hr x hx)
    have hb8 : (s.length + 1) * 16 ≤ 140737488355328 := by omega
    have hs3 : s.length + 1 ≤ 9223372036854775807 := by omega
    have ht : (turn l).length ≤ 9223372036854775807 := by omega
    have hap := toPrs_app s a b
    have hap2 := prs_app s a b
    generalize hD1 : dmgTo s (cycles l) (cycles l).length = D1 at *
    generalize hD2 : dmgTo (s ++ [(a, b)]) (cycles l) (cycles l).length = D2 at *
    generalize hD7 : dmgTo [(0, 7)] (cycles l) (cycles l).length = D7 at *
    generalize hTe : (turn l).length = T at *
    have hT : IntKind.wrap .i64 ((T : Int) - 1) = T - 1 := by
      have : (T : Int) ≤ 9223372036854775807 := by omega
      exact wrap_id (by omega) (by omega)
    have hser2 : l.length ≤ 300 := by
      unfold serE at hser
      split at hser
      · omega
      · omega
    have hmore : damE l (s ++ [(a, b)]) = 0 → risesTo s b s.length = true → D1 ≤ D2 := by
      intro he hr
      have hok : okSteps (s ++ [(a, b)]) = true := by
        unfold damE at he
        rw [if_pos hser] at he
        split at he
        · omega
        · split at he
          · assumption
          · omega
      have := dmg_more (l := l) (m := (a, b)) hok (fun x hx => hS x hx hr)
      rw [hD1, hD2] at this
      exact this
    have hM : (if (1 : Int) < (T : Int) then (T : Int) - 1 else 0) = ((T - 1 : Nat) : Int) := by split <;> omega
    have hTl : T ≤ 300 := by omega
    have hW : IntKind.wrap .i64 (7 * if (1 : Int) < (T : Int) then (T : Int) - 1 else 0) = D7 := by rw [hM, hd7]; exact wrap_id (by omega) (by omega)
    clear hM
    have hd7' : serE l = 0 := hser
    by_cases he : damE l (s ++ [(a, b)]) = 0
    · cases hr : risesTo s b s.length
      · simp -dsimp [hkn]
        repeat' (first | omega | (simp -dsimp [E12, ri, cellp, ints, hkn, hl, hs2, hs3, hb8, hap, hap2, toPrs_rows, prs, cycV, hE, h7, hD1, hD2, hD7, hTe, toPrs_07, he, hr, hT, hW, ht]) | (refine Also.intro ?_ fun _ => ?_) | (refine Hold.intro fun _ => ?_) | (refine And.intro ?_ ?_))
      · have hlt : ¬ D2 < D1 := by have := hmore he hr; omega
        simp -dsimp [hkn]
        repeat' (first | omega | (simp -dsimp [E12, ri, cellp, ints, hkn, hl, hs2, hs3, hb8, hap, hap2, toPrs_rows, prs, cycV, hE, h7, hD1, hD2, hD7, hTe, toPrs_07, he, hr, hlt, hT, hW, ht]) | (refine Also.intro ?_ fun _ => ?_) | (refine Hold.intro fun _ => ?_) | (refine And.intro ?_ ?_))
    · simp -dsimp [hkn]
      repeat' (first | omega | (simp -dsimp [E12, ri, cellp, ints, hkn, hl, hs2, hs3, hb8, hap, hap2, toPrs_rows, prs, cycV, hE, h7, hD1, hD2, hD7, hTe, toPrs_07, he, hT, hW, ht]) | (refine Also.intro ?_ fun _ => ?_) | (refine Hold.intro fun _ => ?_) | (refine And.intro ?_ ?_))
theorem ok12 : FnOK Tryd.prog 12 (.pure lawDmS) := pure_fn (E := E12) rfl (.cons ok15 (.cons ok17 (.cons ok40 .nil))) (ok := [(8, ([], [[0, 1, 2, 3, 4, 5, 6, 7, 8, 9, 10, 11]])), (9, ([], [[0, 1, 2, 3, 4, 5, 6, 7, 8, 9, 10, 11], [0, 1, 3, 2, 4, 5, 6, 7, 8, 9, 10, 11]]))]) (fn := Tryd.f12) (by kernel_rfl) (by kernel_rfl) (by kernel_rfl) (by kernel_rfl) rfl (fun _ _ => by simp) b12
end Go.Sx
end
section
/- Parts: the reference's state. No conditions. -/
set_option linter.unusedSimpArgs false
set_option linter.unusedSectionVars false
namespace Go.Sx

structure RS where
  used : List (Int × Int)
  whr : List (Int × Int)
  iss : List Bool
  since : List (List Int)
  done : List (List Bool)
  deriving Inhabited
def bls (l : List Bool) : V := .sl 1 (l.map rb)
def snV (l : List (List Int)) : V := if l = [] then .nil else .sl 1 (l.map fun x => [ints x])
def dnV (l : List (List Bool)) : V := if l = [] then .nil else .sl 1 (l.map fun x => [bls x])
def RS.row (t : RS) : List V := [.sl 2 (t.used.map cycV), .sl 2 (t.whr.map cycV), .sl 1 (t.iss.map rb), snV t.since, dnV t.done]
theorem ints_inj1 (a b : List Int) (h : [ints a] = [ints b]) : a = b := ints_inj (by simpa using h)
theorem bls_inj1 (a b : List Bool) (h : [bls a] = [bls b]) : a = b := by
  simp only [bls, List.cons.injEq, V.sl.injEq, true_and, and_true] at h
  exact map_inj rb_inj h
theorem snV_inj {a b : List (List Int)} (h : snV a = snV b) : a = b := by
  unfold snV at h
  split at h <;> split at h
  · rename_i h1 h2; rw [h1, h2]
  · cases h
  · cases h
  · simp only [V.sl.injEq, true_and] at h; exact map_inj ints_inj1 h
theorem dnV_inj {a b : List (List Bool)} (h : dnV a = dnV b) : a = b := by
  unfold dnV at h
  split at h <;> split at h
  · rename_i h1 h2; rw [h1, h2]
  · cases h
  · cases h
  · simp only [V.sl.injEq, true_and] at h; exact map_inj bls_inj1 h
@[simp high] theorem len_snV (l : List (List Int)) : (snV l).len = some l.length := by
  unfold snV; split
  · rename_i e; subst e; rfl
  · simp [V.len]
@[simp high] theorem len_dnV (l : List (List Bool)) : (dnV l).len = some l.length := by
  unfold dnV; split
  · rename_i e; subst e; rfl
  · simp [V.len]
theorem snV_ne {l : List (List Int)} (h : 0 < l.length) : snV l = .sl 1 (l.map fun x => [ints x]) := by unfold snV; rw [if_neg]; rintro rfl; simp at h
theorem dnV_ne {l : List (List Bool)} (h : 0 < l.length) : dnV l = .sl 1 (l.map fun x => [bls x]) := by unfold dnV; rw [if_neg]; rintro rfl; simp at h
theorem RS.row_inj (a b : RS) (h : a.row = b.row) : a = b := by
  obtain ⟨u, w, i, s, d⟩ := a; obtain ⟨u', w', i', s', d'⟩ := b
  simp only [RS.row, List.cons.injEq, V.sl.injEq, true_and, and_true] at h
  obtain ⟨h1, h2, h3, h4, h5⟩ := h
  rw [cycV_inj h1, cycV_inj h2, map_inj rb_inj h3, snV_inj h4, dnV_inj h5]
/-- A part of the reference's state, as the program keeps one. -/
def RS.pt (t : RS) (r : Reg) (p : Nat) : PS := { kind := (r.parts.getD p default).kind, hours := (t.used.getD p (0, 0)).1, cycles := (t.used.getD p (0, 0)).2, known := (r.parts.getD p default).known, a := (t.whr.getD p (0, 0)).1, b := (t.whr.getD p (0, 0)).2, since := t.since.map fun l => l.getD p 0, chk := t.done.map fun l => l.getD p false }
def RS.ps (t : RS) (r : Reg) : List PS := (List.range r.parts.length).map (t.pt r)
def RS.hi (t : RS) (r : Reg) : HI := { r := r, ps := t.ps r, iss := t.iss, v1 := .top, v2 := .top, v3 := .top }
theorem RS.ps_len (t : RS) (r : Reg) : (t.ps r).length = r.parts.length := by simp [RS.ps]
theorem RS.ps_get (t : RS) (r : Reg) {p : Nat} (h : p < r.parts.length) : (t.ps r)[p]? = some (t.pt r p) := by simp [RS.ps, h]
/-- A state of a register. -/
structure RS.Wf (t : RS) (r : Reg) : Prop where
  val : r.valid = true
  used : t.used.length = r.parts.length
  whr : t.whr.length = r.parts.length
  iss : t.iss.length = r.orders.length
  since : t.since.length = r.orders.length
  done : t.done.length = r.orders.length
  sincer : ∀ l ∈ t.since, l.length = r.parts.length
  doner : ∀ l ∈ t.done, l.length = r.parts.length
theorem RS.Wf.small {t : RS} {r : Reg} (h : t.Wf r) : (t.hi r).Small := by
  obtain ⟨v1, v2, v3, v4, v5, v6, _⟩ := valid_facts h.val
  exact ⟨by show (t.ps r).length ≤ 1000; rw [RS.ps_len]; omega, by show r.kinds.length ≤ 1000; omega, fun kd hk => by have := v6 kd hk; omega⟩
theorem RS.Wf.fit {t : RS} {r : Reg} (h : t.Wf r) {p : Nat} (hp : p < r.parts.length) : (t.hi r).Fit (t.pt r p) := by
  obtain ⟨v1, v2, v3, v4, v5, v6, v7, v8⟩ := valid_facts h.val
  have := v7 _ (getD_mem hp)
  exact ⟨this.1, this.2.1, h.iss, by simp [RS.pt, RS.hi, h.done], by simp [RS.pt, RS.hi, h.since], by show r.orders.length ≤ _; omega⟩
/-- The state at first. -/
def RS.new (r : Reg) : RS := { used := r.parts.map fun p => (p.hours, p.cycles), whr := r.parts.map fun _ => (-1, -1), iss := List.replicate r.orders.length false, since := List.replicate r.orders.length (List.replicate r.parts.length 0), done := List.replicate r.orders.length (List.replicate r.parts.length false) }
theorem RS.Wf.new {r : Reg} (h : r.valid = true) : (RS.new r).Wf r :=
  ⟨h, by simp [RS.new], by simp [RS.new], by simp [RS.new], by simp [RS.new], by simp [RS.new], fun l hl => by rw [(List.mem_replicate.1 hl).2]; simp, fun l hl => by rw [(List.mem_replicate.1 hl).2]; simp⟩

/-! the object that 'copied' makes -/
def lsV (k n : Nat) : V := if n = 0 then .nil else .bsl k 0 n
def lsB (rows : List (List V)) (ty : Nat) : List Blk := if rows.length = 0 then [] else [{ z := 1, els := rows, ty := ty, cl := false }]
theorem lsV_ne {k n : Nat} (h : 0 < n) : lsV k n = .bsl k 0 n := by unfold lsV; rw [if_neg (by omega)]
theorem lsB_ne {rows : List (List V)} {ty : Nat} (h : 0 < rows.length) : lsB rows ty = [{ z := 1, els := rows, ty := ty, cl := false }] := by unfold lsB; rw [if_neg (by omega)]
def snR (l : List (List Int)) : List (List V) := l.mapIdx fun k x => [.bsl 8829 k x.length]
def dnR (l : List (List Bool)) : List (List V) := l.mapIdx fun k x => [.bsl 8840 k x.length]
def cpB (l : List (Int × Int)) : Blk := { z := 2, els := l.map cycV, ty := 30 }
def ibB (l : List Int) : Blk := { z := 1, els := l.map ri, ty := 3 }
def bbB (l : List Bool) : Blk := { z := 1, els := l.map rb, ty := 4 }
def cpL (t : RS) : List (Nat × Site) :=
  [(8807, { base := 0, blks := [cpB t.used] }), (8810, { base := 0, blks := [cpB t.whr] }), (8813, { base := 0, blks := [bbB t.iss] }),
   (8831, { base := 0, blks := lsB (snR t.since) 22 }), (8829, { base := 0, blks := t.since.map ibB }), (8842, { base := 0, blks := lsB (dnR t.done) 95 }), (8840, { base := 0, blks := t.done.map bbB })]
abbrev cpK : List Nat := [8807, 8810, 8813, 8831, 8829, 8842, 8840]
theorem cpL_keys (t : RS) : (cpL t).map (·.1) = cpK := rfl
def cpV (t : RS) : V := .agg [.bsl 8807 0 t.used.length, .bsl 8810 0 t.whr.length, .bsl 8813 0 t.iss.length, lsV 8831 t.since.length, lsV 8842 t.done.length]
theorem cpL_inj (s s' : RS) (h : ∀ k ∈ cpK, hps (cpL s) noH k = hps (cpL s') noH k) : s = s' := by
  have h1 := congrArg Site.blks (h 8807 (by simp))
  have h2 := congrArg Site.blks (h 8810 (by simp))
  have h3 := congrArg Site.blks (h 8813 (by simp))
  have h4 := congrArg Site.blks (h 8829 (by simp))
  have h5 := congrArg Site.blks (h 8840 (by simp))
  simp only [cpL, hps_cons] at h1 h2 h3 h4 h5
  simp at h1 h2 h3 h4 h5
  obtain ⟨u, w, i, sn, d⟩ := s; obtain ⟨u', w', i', sn', d'⟩ := s'
  simp only [cpB, bbB, Blk.mk.injEq, true_and, and_true] at h1 h2 h3
  have e4 := map_inj (f := ibB) (fun a b h => by simp only [ibB, Blk.mk.injEq, true_and, and_true] at h; exact map_ri_inj h) h4
  have e5 := map_inj (f := bbB) (fun a b h => by simp only [bbB, Blk.mk.injEq, true_and, and_true] at h; exact map_inj rb_inj h) h5
  simp only at e4 e5
  rw [cycV_inj h1, cycV_inj h2, map_inj rb_inj h3, e4, e5]
section
variable [Gls] (s : RS) (h : Hp)
@[simp] theorem c8807 : Ob cpL s h 8807 = { base := 0, blks := [{ z := 2, els := s.used.map cycV, ty := 30 }] } := rfl
@[simp] theorem c8810 : Ob cpL s h 8810 = { base := 0, blks := [{ z := 2, els := s.whr.map cycV, ty := 30 }] } := rfl
@[simp] theorem c8813 : Ob cpL s h 8813 = { base := 0, blks := [{ z := 1, els := s.iss.map rb, ty := 4 }] } := rfl
@[simp] theorem c8831 : Ob cpL s h 8831 = { base := 0, blks := lsB (snR s.since) 22 } := rfl
@[simp] theorem c8829 : Ob cpL s h 8829 = { base := 0, blks := s.since.map ibB } := rfl
@[simp] theorem c8842 : Ob cpL s h 8842 = { base := 0, blks := lsB (dnR s.done) 95 } := rfl
@[simp] theorem c8840 : Ob cpL s h 8840 = { base := 0, blks := s.done.map bbB } := rfl
@[simp] theorem c_ne {k : Nat} (hn : cpK.contains k = false) : Ob cpL s h k = h k := ob_ne cpL_keys hn
@[simp] theorem c_c (s' : RS) : Ob cpL s (Ob cpL s' h) = Ob cpL s h := ob_ob cpL_keys _ _ _
@[simp] theorem c_hget (k i : Nat) : hget (Ob cpL s h) k i = if i < (Ob cpL s h k).base then none else (Ob cpL s h k).blks[i - (Ob cpL s h k).base]? := rfl
@[simp] theorem c_hnext (k : Nat) : hnext (Ob cpL s h) k = (Ob cpL s h k).base + (Ob cpL s h k).blks.length := rfl
@[simp] theorem c_hpush {k : Nat} (hn : cpK.contains k = false) (B : Blk) : hpush (Ob cpL s h) k B = Ob cpL s (hpush h k B) := ob_hpush cpL_keys hn B
theorem c_hset {k i : Nat} (hn : cpK.contains k = false) (B : Blk) : hset (Ob cpL s h) k i B = Ob cpL s (hset h k i B) := ob_hset cpL_keys hn B
@[simp] theorem c_over {k : Nat} {S : Site} {L : List (Nat × Site)} (hn : (((k, S) :: L).all fun p => !cpK.contains p.1) = true) : hps ((k, S) :: L) (Ob cpL s h) = Ob cpL s (hps ((k, S) :: L) h) := ob_over cpL_keys hn
end
section lend
variable [Gls]
theorem lendRs_mapIdx {α : Type} {g : V → Prop × V} {f : Nat → α → List V} {f' : α → List V} {l : List α} (h : ∀ k x, l[k]? = some x → lendCs g (f k x) = (True, f' x)) : lendRs g (l.mapIdx f) = (True, l.map f') := by
  induction l generalizing f with
  | nil => rfl
  | cons a r ih =>
    simp only [List.mapIdx_cons, List.map_cons, lendRs]
    rw [h 0 a rfl, ih (f := fun k x => f (k + 1) x) fun k x hk => h (k + 1) x hk]
    simp
theorem lend_sn (s : RS) (h : Hp) : lendN 3 (Ob cpL s h) (lsV 8831 s.since.length) = (True, snV s.since) := by
  by_cases hn : s.since.length = 0
  · have : s.since = [] := List.length_eq_zero_iff.1 hn
    rw [hn]; simp [lsV, this, lendN, snV]
  · have h0 : ¬ s.since = [] := fun e => hn (by rw [e]; rfl)
    rw [lsV_ne (by omega), snV_ne (by omega)]
    have hr : lendRs (lendN 2 (Ob cpL s h)) (snR s.since) = (True, s.since.map fun l => [ints l]) := by
      refine lendRs_mapIdx fun k x hk => ?_
      have e : (s.since.map ibB)[k]? = some { z := 1, els := x.map ri, ty := 3 } := by rw [List.getElem?_map, hk]; rfl
      simp [lendCs, lendN, V.leaf, e, lendB, ints]
    rw [lendN]
    simp only [c_hget, c8831, Nat.not_lt_zero, if_false, Nat.sub_zero]
    rw [lsB_ne (by simp [snR]; omega)]
    simp only [List.getElem?_cons_zero, lendB, hr]
    simp [snR]
theorem lend_dn (s : RS) (h : Hp) : lendN 3 (Ob cpL s h) (lsV 8842 s.done.length) = (True, dnV s.done) := by
  by_cases hn : s.done.length = 0
  · have : s.done = [] := List.length_eq_zero_iff.1 hn
    rw [hn]; simp [lsV, this, lendN, dnV]
  · have h0 : ¬ s.done = [] := fun e => hn (by rw [e]; rfl)
    rw [lsV_ne (by omega), dnV_ne (by omega)]
    have hr : lendRs (lendN 2 (Ob cpL s h)) (dnR s.done) = (True, s.done.map fun l => [bls l]) := by
      refine lendRs_mapIdx fun k x hk => ?_
      have e : (s.done.map bbB)[k]? = some { z := 1, els := x.map rb, ty := 4 } := by rw [List.getElem?_map, hk]; rfl
      simp [lendCs, lendN, V.leaf, e, lendB, bls]
    rw [lendN]
    simp only [c_hget, c8842, Nat.not_lt_zero, if_false, Nat.sub_zero]
    rw [lsB_ne (by simp [dnR]; omega)]
    simp only [List.getElem?_cons_zero, lendB, hr]
    simp [dnR]
theorem leaf_lsV (k n : Nat) : (lsV k n).leaf = true := by unfold lsV; split <;> rfl
/-- The state that 'copied' returns, lent. -/
theorem lend_cp (s : RS) (h : Hp) : lend (Ob cpL s h) (cpV s) = (True, .agg s.row) := by
  have z1 : lendN 3 (Ob cpL s h) (.bsl 8807 0 s.used.length) = (True, .sl 2 (s.used.map cycV)) := by simp [lendN, lendB]
  have z2 : lendN 3 (Ob cpL s h) (.bsl 8810 0 s.whr.length) = (True, .sl 2 (s.whr.map cycV)) := by simp [lendN, lendB]
  have z3 : lendN 3 (Ob cpL s h) (.bsl 8813 0 s.iss.length) = (True, .sl 1 (s.iss.map rb)) := by simp [lendN, lendB]
  have z4 := lend_sn s h
  have z5 := lend_dn s h
  simp only [cpV, lend, lends1, lend1, z1, z2, z3, z4, z5, RS.row]
  simp
end lend
end Go.Sx
end
