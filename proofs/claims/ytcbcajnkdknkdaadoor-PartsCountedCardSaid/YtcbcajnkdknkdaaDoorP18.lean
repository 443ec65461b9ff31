/- A part of a proof; no conditions. -/
import Derived.Test.YtcbcajnkdknkdaaDoorP17
import Derived.Test.YtcbcajnkdknkdaaDoorP16
set_option linter.unusedSimpArgs false
set_option linter.unusedVariables false
set_option linter.unusedSectionVars false
section
/- Parts: Damage. No conditions. -/
set_option linter.unusedSimpArgs false
set_option maxRecDepth 100000
set_option maxHeartbeats 2000000
namespace Go.Sx
open Go.Proofs
attribute [local irreducible] awp

/-- Between two cycles. -/
structure DamO where
  sum : Int
  n : Nat
  m : Nat
def stepsB (S : List (Int × Int)) : Site := { base := 0, blks := [{ z := 1, els := [[.sl 2 (S.map cycV)]], ty := 26 }] }
def damC (S : List (Int × Int)) (s : DamO) : List (Nat × Site) :=
  [(4003, stepsB S), (4004, { base := 0, blks := [{ z := 1, els := [[.int .i64 s.sum]], ty := 3 }] }), (4009, { base := s.n, blks := [] }), (4010, { base := s.n, blks := [] }), (4012, { base := s.m, blks := [] }), (7301, { base := s.n, blks := [] })]
theorem damC_inj (S : List (Int × Int)) (s s' : DamO) (h : ∀ k ∈ [4003, 4004, 4009, 4010, 4012, 7301], hps (damC S s) noH k = hps (damC S s') noH k) : s = s' := by
  have h1 := h 4004 (by simp)
  have h2 := h 4009 (by simp)
  have h3 := h 4012 (by simp)
  obtain ⟨a, b, c⟩ := s
  obtain ⟨a', b', c'⟩ := s'
  simp [damC, hps] at h1 h2 h3
  rw [h1, h2, h3]
abbrev damPre (S C : List (Int × Int)) (s : DamO) (x : List V) : Prop := (∃ p, x = cycV p ∧ 1 ≤ p.2 ∧ p.2 ≤ 2) ∧ 0 ≤ s.sum ∧ s.sum ≤ 2000000 * s.n ∧ s.n ≤ 1000000
abbrev damNxt (S : List (Int × Int)) (s : DamO) (x : List V) : DamO := { sum := s.sum + (cycOf x).2 * stepAt S (cycOf x).1 S.length, n := s.n + 1, m := s.m + 1000 }
theorem dam_run {S C : List (Int × Int)} (hok : okSteps S = true) (hC : ∀ c ∈ C, 1 ≤ c.2 ∧ c.2 ≤ 2) (hl : C.length ≤ 1000000) : ∀ (j k : Nat) (s : DamO), j + k = C.length → s.sum = dmgTo S C k → s.n = k →
    (runS (damPre S C) (fun _ _ => true) (damNxt S) s ((C.drop k).map cycV)).1 ∧ (runS (damPre S C) (fun _ _ => true) (damNxt S) s ((C.drop k).map cycV)).2.1 = true ∧ (runS (damPre S C) (fun _ _ => true) (damNxt S) s ((C.drop k).map cycV)).2.2.sum = dmgTo S C C.length
  | 0, k, s, h1, h2, h3 => by
    have hk : k = C.length := by omega
    subst hk
    rw [List.drop_length]
    exact ⟨trivial, rfl, h2⟩
  | j + 1, k, s, h1, h2, h3 => by
    have hk : k < C.length := by omega
    have hg : C.getD k (0, 0) = C[k] := by simp [List.getD, List.getElem?_eq_getElem hk]
    have hT : dmgTo S C (k + 1) = dmgTo S C k + (C.getD k (0, 0)).2 * stepAt S (C.getD k (0, 0)).1 S.length := rfl
    rw [hg] at hT
    obtain ⟨b1, b2⟩ := dmg_bd hok hC k (by omega)
    obtain ⟨r1, r2, r3⟩ := dam_run hok hC hl j (k + 1) (damNxt S s (cycV C[k])) (by omega) (by simp only [damNxt, cycOf_V]; rw [h2, hT]) (by simp only [damNxt]; omega)
    rw [List.drop_eq_getElem_cons hk]
    simp only [List.map_cons, runS]
    exact ⟨⟨⟨⟨_, rfl, hC _ (List.getElem_mem hk)⟩, by omega, by omega, by omega⟩, r1⟩, r2, r3⟩
/-- Between two steps. -/
structure DamI where
  sum : Int
  m : Nat
def damIC (z w : Int) (n : Nat) (s : DamI) : List (Nat × Site) :=
  [(4004, { base := 0, blks := [{ z := 1, els := [[.int .i64 s.sum]], ty := 3 }] }), (4009, { base := n, blks := [{ z := 1, els := [[.int .i64 z]], ty := 3 }] }), (4010, { base := n, blks := [{ z := 1, els := [[.int .i64 w]], ty := 3 }] }), (4012, { base := s.m, blks := [] })]
theorem damIC_inj (z w : Int) (n : Nat) (s s' : DamI) (h : ∀ k ∈ [4004, 4009, 4010, 4012], hps (damIC z w n s) noH k = hps (damIC z w n s') noH k) : s = s' := by
  have h1 := h 4004 (by simp)
  have h3 := h 4012 (by simp)
  obtain ⟨a, c⟩ := s
  obtain ⟨a', c'⟩ := s'
  simp [damIC, hps] at h1 h3
  rw [h1, h3]
def stpOf (x : List V) : Int × Int := cycOf (x.getD 1 .top).cs
theorem stpOf_V (j : Int) (p : Int × Int) : stpOf [.int .i64 j, .agg (cycV p)] = p := rfl
abbrev damIPre (a : Int) (s : DamI) (x : List V) : Prop := (∃ j p, x = [.int .i64 j, .agg (cycV p)] ∧ 0 ≤ p.2 ∧ p.2 ≤ 1000000) ∧ s.sum = a
abbrev damIGo (z : Int) (_ : DamI) (x : List V) : Bool := !decide ((stpOf x).1 ≤ z)
abbrev damINxt (z w : Int) (s : DamI) (x : List V) : DamI := { sum := if (stpOf x).1 ≤ z then s.sum + w * (stpOf x).2 else s.sum, m := s.m + 1 }
theorem damI_run {S : List (Int × Int)} (hok : okSteps S = true) (z w a : Int) : ∀ (n : Nat) (s : DamI), n ≤ S.length → s.sum = a →
    (runS (damIPre a) (damIGo z) (damINxt z w) s (bkTo S n)).1 ∧ (runS (damIPre a) (damIGo z) (damINxt z w) s (bkTo S n)).2.2.sum = a + w * stepAt S z n ∧ (runS (damIPre a) (damIGo z) (damINxt z w) s (bkTo S n)).2.2.m ≤ s.m + n
  | 0, s, _, h => ⟨trivial, by simp [bkTo, runS, stepAt, h], by simp [bkTo, runS]⟩
  | n + 1, s, hn, h => by
    have hg : S.getD n (0, 0) = S[n] := by simp [List.getD, List.getElem?_eq_getElem (show n < S.length by omega)]
    have hso := List.all_eq_true.1 hok n (by simp; omega)
    simp only [stepOk, withinB, Bool.and_eq_true, decide_eq_true_eq] at hso
    rw [hg] at hso
    rw [bkTo, stepAt, hg]
    simp only [runS, stpOf_V, damIGo, damINxt]
    by_cases hz : S[n].1 ≤ z
    · simp only [eq_true hz, decide_true, Bool.not_true, if_true]
      refine ⟨⟨⟨_, _, rfl, hso.1.2⟩, h⟩, by rw [h], by omega⟩
    · obtain ⟨r1, r2, r3⟩ := damI_run hok z w a n { sum := s.sum, m := s.m + 1 } (by omega) h
      simp only [eq_false hz, decide_false, Bool.not_false, if_false]
      refine ⟨⟨⟨⟨_, _, rfl, hso.1.2⟩, h⟩, r1⟩, r2, by simp only at r3; omega⟩
noncomputable abbrev E40 : Env := { P := Tryd.prog, fn := tbl [(48, .pure serS), (52, .pure withinS), (49, .heap countS), (81, .iter cntS), (73, .heap backS), (91, .iter bckS)], own := [], key := 4000, nt := 73 }
theorem b40 : PureBody E40 [] Tryd.f40 damS := by
  refine pb ?_
  rintro ⟨L, S⟩ ⟨p1, p2⟩
  simp only at p1 p2
  by_cases h0 : serE L = 0
  case neg =>
    have hd : damE L S = serE L := by rw [damE, if_neg h0]
    simp -dsimp [Tryd.f40, E40, h0, hd, prs]
    repeat' (first | omega | (simp -dsimp [E40, ri, cellp, ints, p1, p2, h0, hd, prs]) | (refine Also.intro ?_ fun _ => ?_) | (refine Hold.intro fun _ => ?_) | (refine And.intro ?_ ?_))
  by_cases h8 : 8 < S.length
  · have h8' : (8 : Int) < S.length := by omega
    have hd : damE L S = 1 := by rw [damE, if_pos h0, if_pos h8]
    simp -dsimp [Tryd.f40, E40, h0, hd, h8, h8', prs]
    repeat' (first | omega | (simp -dsimp [E40, ri, cellp, ints, p1, p2, h0, hd, h8, h8', prs]) | (refine Also.intro ?_ fun _ => ?_) | (refine Hold.intro fun _ => ?_) | (refine And.intro ?_ ?_))
  have h8' : ((8 : Int) < S.length) = False := eq_false (by omega)
  have hcl := cycles_len L
  have hcw := cyc_w (turn L) []
  rw [show cyc (turn L) [] = cycles L from rfl] at hcw
  have hL3 : L.length ≤ 300 := by
    unfold serE at h0
    split at h0
    · cases h0
    · omega
  simp -dsimp [Tryd.f40, E40, h0, h8', prs]
  repeat' (first | omega | (simp -dsimp [E40, ri, cellp, ints, p1, p2, h0, h8', prs]) | (refine Also.intro ?_ fun _ => ?_) | (refine Hold.intro fun _ => ?_) | (refine And.intro ?_ ?_))
  refine awp_loop [24, 25, 26, 27, 8, 7, 28, 29, 30, 31, 32, 33, 34, 35, 36, 37, 38, 39, 40, 41, 42, 43, 44, 45, 46, 47, 48, 49, 50, 51, 52, 5, 53, 23] (fun k : { k : Nat // k ≤ S.length ∧ ∀ j, j < k → stepOk S j = true } => [(23, (true, .int .i64 (k.1 : Nat)))]) (fun k => hps [(4003, { base := 0, blks := [{ z := 1, els := [[.sl 2 (S.map cycV)]], ty := 26 }] }), (4004, { base := 0, blks := [{ z := 1, els := [[.int .i64 0]], ty := 3 }] }), (4008, { base := k.1, blks := [] })] noH) (fun k => S.length - k.1) ⟨0, by omega, fun _ h => by omega⟩ ?_ ?_ ?_
  · simp [okAll, okv]
  · exact (by (try simp -dsimp only [hpush_noH, hpush_hps, hps_over]); refine hle_hps ?_; simp -dsimp [allK, ]; repeat' (first | (refine And.intro ?_ ?_) | (refine sLe.same ?_ ?_ <;> (simp; done)) | (refine sLe.clear ?_ ?_ <;> (first | (simp; done) | (simp; omega))) | (refine sLe.drop 1 ?_ ?_ ?_ <;> (simp; done))))
  rintro ⟨k, hk, hall⟩
  simp only
  by_cases hk1 : k < S.length
  · have hki : (k : Int) < S.length := by omega
    have wk : IntKind.wrap .i64 ((k : Int) + 1) = (k + 1 : Nat) := wrap_id (by omega) (by omega)
    have e1 : S[k]? = some S[k] := List.getElem?_eq_getElem hk1
    have g1 : S.getD k (0, 0) = S[k] := by simp [List.getD, e1]
    have hso : stepOk S k = (withinB S[k].1 0 1000000 && withinB S[k].2 0 1000000 && !(decide (0 < k) && decide (S[k].1 ≤ (S.getD (k - 1) (0, 0)).1))) := by rw [stepOk, g1]
    have hbad : stepOk S k = false → damE L S = 1 := by
      intro hb
      have : okSteps S = false := by
        cases ho : okSteps S with
        | false => rfl
        | true => rw [List.all_eq_true.1 ho k (by simp; omega)] at hb; cases hb
      rw [damE, if_pos h0, if_neg h8, this]; rfl
    generalize hx : S[k] = x at *
    obtain ⟨x1, x2⟩ := x
    simp only at hso
    cases hw1 : withinB x1 0 1000000
    · have hd := hbad (by rw [hso, hw1]; rfl)
      simp -dsimp [hki]
      repeat' (first | omega | (simp -dsimp [E40, ri, cellp, ints, hki, hk1, e1, hx, p2, hw1, hd, cycV]) | (refine Also.intro ?_ fun _ => ?_) | (refine Hold.intro fun _ => ?_) | (refine And.intro ?_ ?_))
    cases hw2 : withinB x2 0 1000000
    · have hd := hbad (by rw [hso, hw1, hw2]; rfl)
      simp -dsimp [hki]
      repeat' (first | omega | (simp -dsimp [E40, ri, cellp, ints, hki, hk1, e1, hx, p2, hw1, hw2, hd, cycV]) | (refine Also.intro ?_ fun _ => ?_) | (refine Hold.intro fun _ => ?_) | (refine And.intro ?_ ?_))
    by_cases hk0 : k = 0
    · have hs1 : stepOk S k = true := by rw [hso, hw1, hw2, hk0]; rfl
      have hkp : ((0 : Int) < k) = False := eq_false (by omega)
      have hkd0 : decide (0 < k) = false := by simp; omega
      simp -dsimp [hki]
      repeat' (first | omega | (simp -dsimp [E40, ri, cellp, ints, hki, hk1, hkp, hkd0, e1, hx, p2, hw1, hw2, wk, cycV]) | (refine Also.intro ?_ fun _ => ?_) | (refine Hold.intro fun _ => ?_) | (refine And.intro ?_ ?_))
      refine ⟨k + 1, tle_chain rfl ?_, (by (try simp -dsimp only [hpush_noH, hpush_hps, hps_over]); refine hle_hps ?_; simp -dsimp [allK, ]; repeat' (first | (refine And.intro ?_ ?_) | (refine sLe.same ?_ ?_ <;> (simp; done)) | (refine sLe.clear ?_ ?_ <;> (first | (simp; done) | (simp; omega))) | (refine sLe.drop 1 ?_ ?_ ?_ <;> (simp; done)))), ⟨by omega, fun j hj => ?_⟩, by omega⟩
      · simp [okAll, okv]
      · by_cases hjk : j = k
        · subst hjk; exact hs1
        · exact hall j (by omega)
    have hkp : ((0 : Int) < k) = True := eq_true (by omega)
    have h2 : k - 1 < S.length := by omega
    have e2 : S[k - 1]? = some S[k - 1] := List.getElem?_eq_getElem h2
    have g2 : S.getD (k - 1) (0, 0) = S[k - 1] := by simp [List.getD, e2]
    have w1 : IntKind.wrap .i64 ((k : Int) - 1) = (k - 1 : Nat) := by rw [wrap_id (by omega) (by omega)]; omega
    rw [g2] at hso
    generalize hy : S[k - 1] = y at *
    obtain ⟨y1, y2⟩ := y
    simp only at hso
    have hkd : decide (0 < k) = true := by simp; omega
    by_cases hxy : x1 ≤ y1
    · have hd := hbad (by rw [hso, hw1, hw2, hkd, decide_eq_true hxy]; rfl)
      simp -dsimp [hki]
      repeat' (first | omega | (simp -dsimp [E40, ri, cellp, ints, hki, hk1, hkp, h2, e1, e2, w1, hx, hy, hxy, p2, hw1, hw2, hd, cycV]) | (refine Also.intro ?_ fun _ => ?_) | (refine Hold.intro fun _ => ?_) | (refine And.intro ?_ ?_))
    · have hs1 : stepOk S k = true := by rw [hso, hw1, hw2, hkd, decide_eq_false hxy]; rfl
      have hxy' : (x1 ≤ y1) = False := eq_false hxy
      simp -dsimp [hki]
      repeat' (first | omega | (simp -dsimp [E40, ri, cellp, ints, hki, hk1, hkp, h2, e1, e2, w1, hx, hy, hxy', p2, hw1, hw2, wk, cycV]) | (refine Also.intro ?_ fun _ => ?_) | (refine Hold.intro fun _ => ?_) | (refine And.intro ?_ ?_))
      refine ⟨k + 1, tle_chain rfl ?_, (by (try simp -dsimp only [hpush_noH, hpush_hps, hps_over]); refine hle_hps ?_; simp -dsimp [allK, ]; repeat' (first | (refine And.intro ?_ ?_) | (refine sLe.same ?_ ?_ <;> (simp; done)) | (refine sLe.clear ?_ ?_ <;> (first | (simp; done) | (simp; omega))) | (refine sLe.drop 1 ?_ ?_ ?_ <;> (simp; done)))), ⟨by omega, fun j hj => ?_⟩, by omega⟩
      · simp [okAll, okv]
      · by_cases hjk : j = k
        · subst hjk; exact hs1
        · exact hall j (by omega)
  have hke : k = S.length := by omega
  subst hke
  have hok : okSteps S = true := List.all_eq_true.2 fun j hj => hall j (by simpa using hj)
  have hd : damE L S = 0 := by rw [damE, if_pos h0, if_neg h8, if_pos hok]
  have hcnt : ∀ H, countS.go [.sl 1 (L.map ri)] H = ⟨True, .fn 81 [.bptr 4901 (hnext H 4901) 1 0 0], hpush H 4901 { z := 1, els := [[.sl 1 (L.map ri)]], ty := 22 }⟩ := fun _ => rfl
  simp -dsimp [hd]
  repeat' (first | omega | (simp -dsimp [E40, ri, cellp, ints, hd, p2, hcnt]) | (refine Also.intro ?_ fun _ => ?_) | (refine Hold.intro fun _ => ?_) | (refine And.intro ?_ ?_))
  have hser : allB L (-1000000) 1000000 = true := by
    unfold serE at h0
    split at h0
    · cases h0
    · split at h0
      · assumption
      · cases h0
  have hbd : Bd L := by
    intro x hx
    have := List.all_eq_true.1 hser x hx
    simp [withinB] at this; omega
  obtain ⟨hr1, hr2, hr3⟩ := dam_run hok hcw (by omega) (cycles L).length 0 { sum := 0, n := 0, m := 0 } (by omega) rfl rfl
  rw [List.drop_zero] at hr1 hr2 hr3
  refine awp_range (LC := damC S) (keys := [4003, 4004, 4009, 4010, 4012, 7301]) (pre := damPre S (cycles L)) (go := fun _ _ => true) (nxt := damNxt S) (damC_inj S) (fun _ => rfl) { sum := 0, n := 0, m := 0 } .normal ((cycles L).map cycV) (own := [8120, 8159, 8432]) (ro := [4901]) (dec := cntDec) rfl (by simp; rfl) rfl (by decide) (by decide) (by decide) ⟨rfl, rfl⟩ ?_ ?_ ?_ hr1 ?_ ?_ ?_
  · intro k hk
    simp at hk
    rcases hk with rfl | rfl | rfl | rfl | rfl | rfl <;> rfl
  · intro k hk
    simp at hk
    rcases hk with rfl | rfl | rfl <;> rfl
  · refine ⟨⟨⟨rfl, rfl, rfl, rfl⟩, rfl, L, rfl, by omega, hbd⟩, ?_⟩
    simp [cntDec]
  · rintro ⟨a, n, m⟩ x hb ⟨⟨⟨z, w⟩, rfl, hw1, hw2⟩, hs1, hs2, hs3⟩ hy1 hy2
    refine ⟨rfl, ?_⟩
    simp only at hw1 hw2 hs1 hs2 hs3
    simp only [damNxt, cycOf_V]
    have hbk : ∀ H, backS.go [.sl 2 (S.map cycV)] H = ⟨True, .fn 91 [.bptr 7301 (hnext H 7301) 1 0 0], hpush H 7301 { z := 1, els := [[.sl 2 (S.map cycV)]], ty := 26 }⟩ := fun H => by simp [backS]
    simp -dsimp [E40, setT, cycV, damC, stepsB]
    repeat' (first | omega | (simp -dsimp [E40, ri, cellp, ints, cycV, hbk]) | (refine Also.intro ?_ fun _ => ?_) | (refine Hold.intro fun _ => ?_) | (refine And.intro ?_ ?_))
    obtain ⟨q1, q2, q3⟩ := damI_run hok z w a S.length { sum := a, m := m } (Nat.le_refl _) rfl
    generalize hfin : (runS (damIPre a) (damIGo z) (damINxt z w) { sum := a, m := m } (bkTo S S.length)).2.2 = fin at *
    obtain ⟨fs, fm⟩ := fin
    simp only at q2 q3
    subst q2
    have hfm : fm ≤ m + 8 := by omega
    have hle : HLe (hps [(4004, { base := 0, blks := [{ z := 1, els := [[.int .i64 (a + w * stepAt S z S.length)]], ty := 3 }] }), (4009, { base := n, blks := [{ z := 1, els := [[.int .i64 z]], ty := 3 }] }), (4010, { base := n, blks := [{ z := 1, els := [[.int .i64 w]], ty := 3 }] }), (4012, { base := fm, blks := [] }), (7301, { base := n, blks := [{ z := 1, els := [[V.sl 2 (S.map cycV)]], ty := 26 }] }),
            (4010, { base := n, blks := [{ z := 1, els := [[V.int IntKind.i64 w]], ty := 3 }] }),
            (4009, { base := n, blks := [{ z := 1, els := [[V.int IntKind.i64 z]], ty := 3 }] }),
            (4003, { base := 0, blks := [{ z := 1, els := [[V.sl 2 (S.map cycV)]], ty := 26 }] }),
            (4004, { base := 0, blks := [{ z := 1, els := [[V.int IntKind.i64 a]], ty := 3 }] }),
            (4009, { base := n, blks := [] }), (4010, { base := n, blks := [] }), (4012, { base := m, blks := [] }),
            (7301, { base := n, blks := [] })] hb) (hps [(4003, { base := 0, blks := [{ z := 1, els := [[V.sl 2 (S.map cycV)]], ty := 26 }] }), (4004, { base := 0, blks := [{ z := 1, els := [[V.int IntKind.i64 (a + w * stepAt S z S.length)]], ty := 3 }] }), (4009, { base := n + 1, blks := [] }), (4010, { base := n + 1, blks := [] }), (4012, { base := m + 1000, blks := [] }), (7301, { base := n + 1, blks := [] })] hb) := (by (try simp -dsimp only [hpush_noH, hpush_hps, hps_over]); refine hle_hpsb ?_; simp -dsimp [allK, ]; repeat' (first | (refine And.intro ?_ ?_) | (refine sLe.same ?_ ?_ <;> (simp; done)) | (refine sLe.clear ?_ ?_ <;> (first | (simp; done) | (simp; omega))) | (refine sLe.drop 1 ?_ ?_ ?_ <;> (simp; done))))
    have hps0 : ∀ H : Hp, hps [] H = H := fun _ => rfl
    refine awp_range (LC := damIC z w n) (keys := [4004, 4009, 4010, 4012]) (pre := damIPre a) (go := damIGo z) (nxt := damINxt z w) (damIC_inj z w n) (fun _ => rfl) { sum := a, m := m } (.exit 4) (bkTo S S.length) (own := []) (ro := [7301]) (dec := backDec) rfl (by simp; rfl) rfl (by decide) (by decide) (by decide) ?_ ?_ ?_ ?_ q1 ?_ ?_ ?_
    · simp [hps, YS, hy1, hy2]
    · intro k hk
      simp at hk
      rcases hk with rfl | rfl | rfl | rfl <;> simp [hps, damIC]
    · intro k hk; simp at hk
    · simp [backDec, hget_hps, hps_cons, prs, V.toPrs]
      exact ⟨⟨S, rfl, by omega⟩, congrArg (bkTo · S.length) ((List.map_congr_left (fun p _ => cycOf_V p)).trans (List.map_id S))⟩
    · rintro ⟨a', m'⟩ x hb2 ⟨⟨j, ⟨x1, x2⟩, rfl, hp1, hp2⟩, hsum⟩ hz1 hz2
      simp only at hsum hp1 hp2
      subst hsum
      refine ⟨rfl, ?_⟩
      simp only [damIGo, damINxt, stpOf_V]
      have hw : w = 1 ∨ w = 2 := by omega
      have ww : IntKind.wrap .i64 (w * x2) = w * x2 := by rcases hw with e | e <;> rw [e] <;> exact wrap_id (by omega) (by omega)
      have wa : IntKind.wrap .i64 (a' + w * x2) = a' + w * x2 := by rcases hw with e | e <;> rw [e] <;> exact wrap_id (by omega) (by omega)
      by_cases hxz : x1 ≤ z
      · have hlT : HLe (hps [(4004, { base := 0, blks := [{ z := 1, els := [[V.int IntKind.i64 (a' + w * x2)]], ty := 3 }] }), (4012, { base := m', blks := [{ z := 2, els := [[V.int IntKind.i64 x1, V.int IntKind.i64 x2]], ty := 30 }] }), (4004, { base := 0, blks := [{ z := 1, els := [[V.int IntKind.i64 (a')]], ty := 3 }] }), (4009, { base := n, blks := [{ z := 1, els := [[V.int IntKind.i64 z]], ty := 3 }] }), (4010, { base := n, blks := [{ z := 1, els := [[V.int IntKind.i64 w]], ty := 3 }] }), (4012, { base := m', blks := [] })] hb2) (hps [(4004, { base := 0, blks := [{ z := 1, els := [[V.int IntKind.i64 (a' + w * x2)]], ty := 3 }] }), (4009, { base := n, blks := [{ z := 1, els := [[V.int IntKind.i64 z]], ty := 3 }] }), (4010, { base := n, blks := [{ z := 1, els := [[V.int IntKind.i64 w]], ty := 3 }] }), (4012, { base := m' + 1, blks := [] })] hb2) := (by (try simp -dsimp only [hpush_noH, hpush_hps, hps_over]); refine hle_hpsb ?_; simp -dsimp [allK, ]; repeat' (first | (refine And.intro ?_ ?_) | (refine sLe.same ?_ ?_ <;> (simp; done)) | (refine sLe.clear ?_ ?_ <;> (first | (simp; done) | (simp; omega))) | (refine sLe.drop 1 ?_ ?_ ?_ <;> (simp; done))))
        simp -dsimp [E40, setT, cycV, damIC, eq_true hxz]
        repeat' (first | omega | (simp -dsimp [E40, ri, cellp, ints, cycV, ww, wa, eq_true hxz, hlT]) | (refine Also.intro ?_ fun _ => ?_) | (refine Hold.intro fun _ => ?_) | (refine And.intro ?_ ?_))
      · have hlF : HLe (hps [(4012, { base := m', blks := [{ z := 2, els := [[V.int IntKind.i64 x1, V.int IntKind.i64 x2]], ty := 30 }] }), (4004, { base := 0, blks := [{ z := 1, els := [[V.int IntKind.i64 (a')]], ty := 3 }] }), (4009, { base := n, blks := [{ z := 1, els := [[V.int IntKind.i64 z]], ty := 3 }] }), (4010, { base := n, blks := [{ z := 1, els := [[V.int IntKind.i64 w]], ty := 3 }] }), (4012, { base := m', blks := [] })] hb2) (hps [(4004, { base := 0, blks := [{ z := 1, els := [[V.int IntKind.i64 (a')]], ty := 3 }] }), (4009, { base := n, blks := [{ z := 1, els := [[V.int IntKind.i64 z]], ty := 3 }] }), (4010, { base := n, blks := [{ z := 1, els := [[V.int IntKind.i64 w]], ty := 3 }] }), (4012, { base := m' + 1, blks := [] })] hb2) := (by (try simp -dsimp only [hpush_noH, hpush_hps, hps_over]); refine hle_hpsb ?_; simp -dsimp [allK, ]; repeat' (first | (refine And.intro ?_ ?_) | (refine sLe.same ?_ ?_ <;> (simp; done)) | (refine sLe.clear ?_ ?_ <;> (first | (simp; done) | (simp; omega))) | (refine sLe.drop 1 ?_ ?_ ?_ <;> (simp; done))))
        simp -dsimp [E40, setT, cycV, damIC, eq_false hxz]
        repeat' (first | omega | (simp -dsimp [E40, ri, cellp, ints, cycV, eq_false hxz, hlF]) | (refine Also.intro ?_ fun _ => ?_) | (refine Hold.intro fun _ => ?_) | (refine And.intro ?_ ?_))
    · intro _
      rw [hfin]
      simp -dsimp [damIC, hps_app, hps0]
      repeat' (first | omega | (simp -dsimp [E40, ri, cellp, ints, hle, hps0]) | (refine Also.intro ?_ fun _ => ?_) | (refine Hold.intro fun _ => ?_) | (refine And.intro ?_ ?_))
    · intro _
      refine ⟨by simp, ?_⟩
      rw [hfin]
      simp -dsimp [damIC, hps_app, hps0]
      repeat' (first | omega | (simp -dsimp [E40, ri, cellp, ints, hle, hps0]) | (refine Also.intro ?_ fun _ => ?_) | (refine Hold.intro fun _ => ?_) | (refine And.intro ?_ ?_))
  · intro _
    simp -dsimp [damC, stepsB, hps_app]
    repeat' (first | omega | (simp -dsimp [E40, ri, cellp, ints, hr3]) | (refine Also.intro ?_ fun _ => ?_) | (refine Hold.intro fun _ => ?_) | (refine And.intro ?_ ?_))
  · intro h
    rw [hr2] at h; cases h
theorem ok40 : FnOK Tryd.prog 40 (.pure damS) := pure_fn (E := E40) rfl (.cons ok48 (.cons ok52 (.cons ok49 (.cons ok81 (.cons ok73 (.cons ok91 .nil)))))) (ok := []) (fn := Tryd.f40) (by kernel_rfl) (by kernel_rfl) (by kernel_rfl) (by kernel_rfl) rfl (fun _ _ => by simp) b40
end Go.Sx
end
section
/- Parts: Cycles and Damage are the reference's. No conditions. -/
set_option linter.unusedSimpArgs false
set_option linter.unusedSectionVars false
set_option maxRecDepth 100000
set_option maxHeartbeats 2000000
namespace Go.Sx
open Go.Proofs
attribute [local irreducible] HLe
attribute [local simp] hps_app

abbrev lawCyS : PSpec := { dom := List Int × List (Int × Int), enc := fun d => [ints d.1, prs d.2], dec := fun l => ((l.getD 0 .top).toInts, (l.getD 1 .top).toPrs), pre := fun d => d.1.length ≤ 9223372036854775807 ∧ d.2.length ≤ 9223372036854775807, res := fun _ => .bool true }
noncomputable abbrev E11 : Env := { P := Tryd.prog, fn := tbl [(15, .pure worksS), (16, .pure CyclesS), (18, .pure samePS), (39, .pure CyclesS), (40, .pure damS), (41, .pure damS)], own := [], key := 1100, nt := 53 }
theorem b11 : PureBody E11 [] Tryd.f11 lawCyS := by
  refine pb ?_
  rintro ⟨l, st⟩ ⟨hl, hs⟩
  simp only at hl hs
  have hc : (if serE l = 0 then cycles l else []).length ≤ 9223372036854775807 := by
    split
    · have := cycles_len l; omega
    · simp
  simp -dsimp [Tryd.f11, E11, prs]
  repeat' (first | omega | (simp -dsimp [E11, ri, cellp, ints, hl, hs, hc, toPrs_rows, prs]) | (refine Also.intro ?_ fun _ => ?_) | (refine Hold.intro fun _ => ?_) | (refine And.intro ?_ ?_))
theorem ok11 : FnOK Tryd.prog 11 (.pure lawCyS) := pure_fn (E := E11) rfl (.cons ok15 (.cons ok16 (.cons ok18 (.cons ok39 (.cons ok40 (.cons ok41 .nil)))))) (ok := []) (fn := Tryd.f11) (by kernel_rfl) (by kernel_rfl) (by kernel_rfl) (by kernel_rfl) rfl (fun _ _ => by simp) b11
end Go.Sx
end
section
/- Parts: the halves of all cycles, and how damage grows. No conditions. -/
set_option linter.unusedSimpArgs false
set_option linter.unusedSectionVars false
namespace Go.Sx

def hsum : List (Int × Int) → Int
  | [] => 0
  | c :: r => c.2 + hsum r
theorem hsum_app : ∀ a b : List (Int × Int), hsum (a ++ b) = hsum a + hsum b
  | [], b => by simp [hsum]
  | c :: a, b => by simp only [List.cons_append, hsum, hsum_app a b]; omega
theorem red_hs : ∀ (n : Nat) (pile : List Int), pile.length = n → hsum (red pile).1 + ((red pile).2.length : Int) = pile.length ∧ (0 < pile.length → 0 < (red pile).2.length) := by
  intro n
  induction n using Nat.strongRecOn with
  | _ n ih =>
    intro pile hn
    by_cases h : 3 ≤ pile.length
    case neg => rw [red_small (by omega)]; simp [hsum]
    by_cases h1 : dist (pile.getD (pile.length - 1) 0) (pile.getD (pile.length - 2) 0) < dist (pile.getD (pile.length - 2) 0) (pile.getD (pile.length - 3) 0)
    · rw [red_stop h h1]; simp [hsum]
    by_cases h3 : pile.length = 3
    · rw [red_half h3 h1]
      obtain ⟨i1, i2⟩ := ih (pile.drop 1).length (by simp; omega) (pile.drop 1) rfl
      have hl : (pile.drop 1).length = 2 := by simp; omega
      simp only [hsum]
      rw [hl] at i1 i2
      exact ⟨by omega, fun _ => i2 (by omega)⟩
    · rw [red_whole (by omega) h1]
      obtain ⟨i1, i2⟩ := ih (pile.take (pile.length - 3) ++ pile.drop (pile.length - 1)).length (by simp; omega) _ rfl
      have hl : (pile.take (pile.length - 3) ++ pile.drop (pile.length - 1)).length = pile.length - 2 := by simp; omega
      simp only [hsum]
      rw [hl] at i1 i2
      exact ⟨by omega, fun _ => i2 (by omega)⟩
theorem tailC_hs (pile : List Int) : hsum (tailC pile) = (pile.length - 1 : Nat) := by
  have : ∀ l : List Nat, hsum (l.map fun i => (dist (pile.getD (i + 1) 0) (pile.getD i 0), 1)) = l.length := by
    intro l
    induction l with
    | nil => rfl
    | cons a r ih => simp only [List.map_cons, hsum, ih, List.length_cons]; omega
  rw [tailC, this, List.length_range]
theorem cyc_hs : ∀ (pts pile : List Int), hsum (cyc pts pile) = (pts.length + pile.length - 1 : Nat)
  | [], pile => by simp [cyc, tailC_hs]
  | p :: r, pile => by
    obtain ⟨h1, h2⟩ := red_hs _ (pile ++ [p]) rfl
    have h3 := cyc_hs r (red (pile ++ [p])).2
    have hl : (pile ++ [p]).length = pile.length + 1 := by simp
    rw [hl] at h1 h2
    have h2 := h2 (by omega)
    rw [cyc, hsum_app, h3]
    simp only [List.length_cons]
    omega
theorem cycles_hs (l : List Int) : hsum (cycles l) = ((turn l).length - 1 : Nat) := by
  have := cyc_hs (turn l) []
  simpa [cycles] using this
theorem dist_nn (a b : Int) : 0 ≤ dist a b := by unfold dist; omega
theorem red_nn : ∀ (n : Nat) (pile : List Int), pile.length = n → ∀ c ∈ (red pile).1, 0 ≤ c.1 := by
  intro n
  induction n using Nat.strongRecOn with
  | _ n ih =>
    intro pile hn
    by_cases h : 3 ≤ pile.length
    case neg => rw [red_small (by omega)]; simp
    by_cases h1 : dist (pile.getD (pile.length - 1) 0) (pile.getD (pile.length - 2) 0) < dist (pile.getD (pile.length - 2) 0) (pile.getD (pile.length - 3) 0)
    · rw [red_stop h h1]; simp
    by_cases h3 : pile.length = 3
    · rw [red_half h3 h1]
      intro c hc
      rcases List.mem_cons.1 hc with rfl | hc
      · exact dist_nn _ _
      · exact ih (pile.drop 1).length (by simp; omega) (pile.drop 1) rfl c hc
    · rw [red_whole (by omega) h1]
      intro c hc
      rcases List.mem_cons.1 hc with rfl | hc
      · exact dist_nn _ _
      · exact ih (pile.take (pile.length - 3) ++ pile.drop (pile.length - 1)).length (by simp; omega) _ rfl c hc
theorem cyc_nn : ∀ (pts pile : List Int), ∀ c ∈ cyc pts pile, 0 ≤ c.1
  | [], pile, c, hc => by
    simp only [cyc, tailC, List.mem_map] at hc
    obtain ⟨_, _, rfl⟩ := hc
    exact dist_nn _ _
  | p :: r, pile, c, hc => by
    rcases List.mem_append.1 hc with hc | hc
    · exact red_nn _ _ rfl c hc
    · exact cyc_nn r _ c hc
theorem dmg_take (S C : List (Int × Int)) : ∀ i, i ≤ C.length → dmgTo S C i = (((C.take i).map fun c => c.2 * stepAt S c.1 S.length)).sum
  | 0, _ => by simp [dmgTo]
  | i + 1, hi => by
    have hg : C.getD i (0, 0) = C[i] := by simp [List.getD, List.getElem?_eq_getElem (show i < C.length by omega)]
    rw [dmgTo, dmg_take S C i (by omega), hg, List.take_add_one, List.getElem?_eq_getElem (show i < C.length by omega)]
    rw [List.map_append, List.sum_append]
    simp only [Option.toList_some, List.map_cons, List.map_nil, List.sum_cons, List.sum_nil]
    omega
def dmgS (S : List (Int × Int)) : List (Int × Int) → Int
  | [] => 0
  | c :: r => c.2 * stepAt S c.1 S.length + dmgS S r
theorem dmg_eq (S C : List (Int × Int)) : dmgTo S C C.length = dmgS S C := by
  rw [dmg_take S C _ (Nat.le_refl _), List.take_length]
  induction C with
  | nil => rfl
  | cons c r ih => simp only [List.map_cons, List.sum_cons, dmgS, ih]
theorem dmgS_seven : ∀ C : List (Int × Int), (∀ c ∈ C, 0 ≤ c.1) → dmgS [(0, 7)] C = 7 * hsum C
  | [], _ => rfl
  | c :: r, h => by
    have h0 := h c (by simp)
    have : stepAt [(0, 7)] c.1 1 = 7 := by simp [stepAt, h0]
    simp only [dmgS, hsum, List.length_cons, List.length_nil, this, dmgS_seven r fun c hc => h c (by simp [hc])]
    omega
theorem dmg_seven (l : List Int) : dmgTo [(0, 7)] (cycles l) (cycles l).length = 7 * ((turn l).length - 1 : Nat) := by
  rw [dmg_eq, dmgS_seven (cycles l) (cyc_nn _ _), cycles_hs]
theorem stepAt_app (S : List (Int × Int)) (m : Int × Int) (z : Int) : ∀ n, n ≤ S.length → stepAt (S ++ [m]) z n = stepAt S z n
  | 0, _ => rfl
  | n + 1, hn => by
    have : (S ++ [m]).getD n (0, 0) = S.getD n (0, 0) := by simp [List.getD, List.getElem?_append_left (show n < S.length by omega)]
    rw [stepAt, stepAt, this, stepAt_app S m z n (by omega)]
theorem stepAt_le {S : List (Int × Int)} {m : Int} (hm : 0 ≤ m) (h : ∀ s ∈ S, s.2 ≤ m) (z : Int) : ∀ n, n ≤ S.length → stepAt S z n ≤ m
  | 0, _ => hm
  | n + 1, hn => by
    rw [stepAt]
    split
    · have : S.getD n (0, 0) = S[n] := by simp [List.getD, List.getElem?_eq_getElem (show n < S.length by omega)]
      rw [this]; exact h _ (List.getElem_mem _)
    · exact stepAt_le hm h z n (by omega)
theorem stepAt_more {S : List (Int × Int)} {m : Int × Int} (hm : 0 ≤ m.2) (h : ∀ s ∈ S, s.2 ≤ m.2) (z : Int) : stepAt S z S.length ≤ stepAt (S ++ [m]) z (S ++ [m]).length := by
  have hl : (S ++ [m]).length = S.length + 1 := by simp
  have hg : (S ++ [m]).getD S.length (0, 0) = m := by simp [List.getD]
  rw [hl, stepAt, hg, stepAt_app S m z _ (Nat.le_refl _)]
  split
  · exact stepAt_le hm h z _ (Nat.le_refl _)
  · exact Int.le_refl _
theorem dmgS_more {S : List (Int × Int)} {m : Int × Int} (hm : 0 ≤ m.2) (h : ∀ s ∈ S, s.2 ≤ m.2) : ∀ C : List (Int × Int), (∀ c ∈ C, 1 ≤ c.2 ∧ c.2 ≤ 2) → dmgS S C ≤ dmgS (S ++ [m]) C
  | [], _ => Int.le_refl _
  | c :: r, hc => by
    have h1 := dmgS_more hm h r fun c k => hc c (by simp [k])
    have h2 := stepAt_more hm h c.1
    have h3 := hc c (by simp)
    simp only [dmgS]
    have : c.2 = 1 ∨ c.2 = 2 := by omega
    rcases this with e | e <;> rw [e] <;> omega
theorem dmg_more {l : List Int} {S : List (Int × Int)} {m : Int × Int} (hm : okSteps (S ++ [m]) = true) (h : ∀ s ∈ S, s.2 ≤ m.2) : dmgTo S (cycles l) (cycles l).length ≤ dmgTo (S ++ [m]) (cycles l) (cycles l).length := by
  rw [dmg_eq, dmg_eq]
  refine dmgS_more ?_ h _ (cyc_w _ _)
  have := List.all_eq_true.1 hm S.length (by simp)
  have hg : (S ++ [m]).getD S.length (0, 0) = m := by simp [List.getD]
  simp only [stepOk, hg, withinB, Bool.and_eq_true, decide_eq_true_eq] at this
  omega
end Go.Sx
end
section
/- Parts: the cycles of a series that is moved, turned over, or has a load twice. No conditions. -/
set_option linter.unusedSimpArgs false
set_option linter.unusedSectionVars false
namespace Go.Sx

theorem gset_ne {o : List Int} {i j : Nat} {x : Int} (h : i ≠ j) : (o.set i x).getD j 0 = o.getD j 0 := by simp [List.getD, List.getElem?_set_ne h]
theorem gset_eq {o : List Int} {i : Nat} {x : Int} (h : i < o.length) : (o.set i x).getD i 0 = x := by simp [List.getD, List.getElem?_set_self h]
/-- The last two differ. -/
def NE (o : List Int) : Prop := 1 < o.length → o.getD (o.length - 2) 0 ≠ o.getD (o.length - 1) 0
/-- Keeps the order, or turns it over. -/
def Mono (f : Int → Int) : Prop := (∀ a b, a < b ↔ f a < f b) ∨ (∀ a b, a < b ↔ f b < f a)
theorem Mono.inj {f : Int → Int} (h : Mono f) (a b : Int) : f a = f b ↔ a = b := by
  constructor
  · intro e
    rcases h with h | h
    · have h1 := h a b; have h2 := h b a; rw [e] at h1 h2; omega
    · have h1 := h a b; have h2 := h b a; rw [e] at h1 h2; omega
  · intro e; rw [e]
theorem getD_map {f : Int → Int} {o : List Int} {i : Nat} (h : i < o.length) : (o.map f).getD i 0 = f (o.getD i 0) := by simp [List.getD, h]
theorem tpush_ne {o : List Int} (h : NE o) (n : Int) : NE (tpush o n) := by
  unfold tpush
  split
  · exact h
  · rename_i h1
    split
    · rename_i h2
      obtain ⟨h3, h4⟩ := h2
      intro _
      rw [List.length_set, gset_ne (by omega), gset_eq (by omega)]
      have hn := h h3
      have h5 : o.getD (o.length - 1) 0 ≠ n := fun e => h1 ⟨by omega, e⟩
      have h7 := decide_eq_decide.1 h4
      by_cases h6 : o.getD (o.length - 2) 0 < o.getD (o.length - 1) 0
      · have := h7.1 h6
        omega
      · have : ¬ o.getD (o.length - 1) 0 < n := fun e => h6 (h7.2 e)
        omega
    · intro hl
      have hl' : 0 < o.length := by simp at hl; omega
      have e1 : (o ++ [n]).getD ((o ++ [n]).length - 1) 0 = n := by simp [List.getD]
      have e2 : (o ++ [n]).getD ((o ++ [n]).length - 2) 0 = o.getD (o.length - 1) 0 := by
        have : (o ++ [n]).length - 2 = o.length - 1 := by simp only [List.length_append, List.length_cons, List.length_nil]; omega
        rw [this]; simp [List.getD, List.getElem?_append_left (show o.length - 1 < o.length by omega)]
      rw [e1, e2]
      exact fun e => h1 ⟨hl', e⟩
theorem tpush_map {f : Int → Int} (hf : Mono f) {o : List Int} (h : NE o) (n : Int) : tpush (o.map f) (f n) = (tpush o n).map f := by
  unfold tpush
  rw [List.length_map]
  by_cases h1 : 0 < o.length ∧ o.getD (o.length - 1) 0 = n
  · rw [if_pos ⟨h1.1, by rw [getD_map (by omega), h1.2]⟩, if_pos h1]
  · have h1' : ¬ (0 < o.length ∧ (o.map f).getD (o.length - 1) 0 = f n) := fun e => h1 ⟨e.1, (hf.inj _ _).1 (by rw [← e.2, getD_map (by omega)])⟩
    rw [if_neg h1', if_neg h1]
    by_cases h2 : 1 < o.length
    · have hn := h h2
      have h5 : o.getD (o.length - 1) 0 ≠ n := fun e => h1 ⟨by omega, e⟩
      have hq : (decide ((o.map f).getD (o.length - 2) 0 < (o.map f).getD (o.length - 1) 0) = decide ((o.map f).getD (o.length - 1) 0 < f n)) ↔ (decide (o.getD (o.length - 2) 0 < o.getD (o.length - 1) 0) = decide (o.getD (o.length - 1) 0 < n)) := by
        rw [getD_map (by omega), getD_map (by omega)]
        generalize o.getD (o.length - 2) 0 = a at *
        generalize o.getD (o.length - 1) 0 = b at *
        rcases hf with hf | hf
        · have h6 := hf a b; have h7 := hf b n
          by_cases c1 : a < b <;> by_cases c2 : b < n <;> simp [c1, c2, ← h6, ← h7]
        · have h6 := hf b a; have h7 := hf n b
          by_cases c1 : a < b <;> by_cases c2 : b < n <;> simp [c1, c2, ← h6, ← h7] <;> omega
      by_cases h3 : decide (o.getD (o.length - 2) 0 < o.getD (o.length - 1) 0) = decide (o.getD (o.length - 1) 0 < n)
      · rw [if_pos ⟨h2, hq.2 h3⟩, if_pos ⟨h2, h3⟩, List.map_set]
      · rw [if_neg (fun e => h3 (hq.1 e.2)), if_neg (fun e => h3 e.2)]; simp
    · rw [if_neg (fun e => h2 e.1), if_neg (fun e => h2 e.1)]; simp
theorem turn_app (l : List Int) (n : Int) : turn (l ++ [n]) = tpush (turn l) n := by simp [turn, List.foldl_append]
theorem list_rev_ind {P : List Int → Prop} (h0 : P []) (h1 : ∀ l n, P l → P (l ++ [n])) (l : List Int) : P l := by
  have : ∀ k, k ≤ l.length → P (l.take k) := by
    intro k
    induction k with
    | zero => intro _; simpa using h0
    | succ k ih =>
      intro hk
      rw [List.take_add_one, List.getElem?_eq_getElem (by omega)]
      exact h1 _ _ (ih (by omega))
  have := this l.length (Nat.le_refl _)
  rwa [List.take_length] at this
theorem turn_ne (l : List Int) : NE (turn l) := list_rev_ind (P := fun l => NE (turn l)) (fun h => by simp [turn] at h) (fun l n ih => by rw [turn_app]; exact tpush_ne ih n) l
theorem turn_map {f : Int → Int} (hf : Mono f) (l : List Int) : turn (l.map f) = (turn l).map f :=
  list_rev_ind (P := fun l => turn (l.map f) = (turn l).map f) rfl (fun l n ih => by rw [List.map_append, List.map_cons, List.map_nil, turn_app, turn_app, ih, tpush_map hf (turn_ne l)]) l
theorem red_map {f : Int → Int} (hd : ∀ a b, dist (f a) (f b) = dist a b) : ∀ (n : Nat) (pile : List Int), pile.length = n → red (pile.map f) = ((red pile).1, (red pile).2.map f) := by
  intro n
  induction n using Nat.strongRecOn with
  | _ n ih =>
    intro pile hn
    by_cases h : 3 ≤ pile.length
    case neg =>
      have hl : (pile.map f).length = pile.length := by simp
      rw [red_small (pile := pile) (by omega), red_small (pile := pile.map f) (by omega)]
    have g1 := getD_map (f := f) (o := pile) (i := pile.length - 1) (by omega)
    have g2 := getD_map (f := f) (o := pile) (i := pile.length - 2) (by omega)
    have g3 := getD_map (f := f) (o := pile) (i := pile.length - 3) (by omega)
    have hl : (pile.map f).length = pile.length := by simp
    by_cases h1 : dist (pile.getD (pile.length - 1) 0) (pile.getD (pile.length - 2) 0) < dist (pile.getD (pile.length - 2) 0) (pile.getD (pile.length - 3) 0)
    · rw [red_stop h h1, red_stop (by omega) (by rw [hl, g1, g2, g3, hd, hd]; exact h1)]
    have h1' : ¬ dist ((pile.map f).getD ((pile.map f).length - 1) 0) ((pile.map f).getD ((pile.map f).length - 2) 0) < dist ((pile.map f).getD ((pile.map f).length - 2) 0) ((pile.map f).getD ((pile.map f).length - 3) 0) := by rw [hl, g1, g2, g3, hd, hd]; exact h1
    by_cases h3 : pile.length = 3
    · have hi := ih (pile.drop 1).length (by simp; omega) (pile.drop 1) rfl
      rw [red_half h3 h1, red_half (by omega) h1', hl, g2, g3, hd, ← List.map_drop, hi]
    · have hi := ih (pile.take (pile.length - 3) ++ pile.drop (pile.length - 1)).length (by simp; omega) _ rfl
      rw [red_whole (by omega) h1, red_whole (by omega) h1', hl, g2, g3, hd]
      rw [List.map_append, List.map_take, List.map_drop] at hi
      rw [hi]
theorem tailC_map {f : Int → Int} (hd : ∀ a b, dist (f a) (f b) = dist a b) (pile : List Int) : tailC (pile.map f) = tailC pile := by
  unfold tailC
  rw [List.length_map]
  refine List.map_congr_left fun i hi => ?_
  simp at hi
  rw [getD_map (by omega), getD_map (by omega), hd]
theorem cyc_map {f : Int → Int} (hd : ∀ a b, dist (f a) (f b) = dist a b) : ∀ (pts pile : List Int), cyc (pts.map f) (pile.map f) = cyc pts pile
  | [], pile => tailC_map hd pile
  | p :: r, pile => by
    have h := red_map hd _ (pile ++ [p]) rfl
    rw [List.map_append, List.map_cons, List.map_nil] at h
    simp only [List.map_cons, cyc, h]
    rw [cyc_map hd r]
theorem cycles_map {f : Int → Int} (hf : Mono f) (hd : ∀ a b, dist (f a) (f b) = dist a b) (l : List Int) : cycles (l.map f) = cycles l := by
  have := cyc_map hd (turn l) []
  rw [cycles, turn_map hf]
  exact this
theorem cycles_neg (l : List Int) : cycles (l.map fun x => -x) = cycles l := cycles_map (.inr fun a b => by omega) (fun a b => by simp only [dist]; omega) l
theorem cycles_add (l : List Int) (c : Int) : cycles (l.map fun x => x + c) = cycles l := cycles_map (.inl fun a b => by omega) (fun a b => by simp only [dist]; omega) l
theorem tpush_last (o : List Int) (n : Int) : 0 < (tpush o n).length ∧ (tpush o n).getD ((tpush o n).length - 1) 0 = n := by
  unfold tpush
  split
  · rename_i h; exact h
  · split
    · rename_i h
      rw [List.length_set]
      exact ⟨by omega, gset_eq (by omega)⟩
    · simp [List.getD]
theorem tpush_twice (o : List Int) (n : Int) : tpush (tpush o n) n = tpush o n := by
  have h := tpush_last o n
  generalize tpush o n = q at *
  unfold tpush
  rw [if_pos h]
theorem cycles_twice (a b : List Int) (n : Int) : cycles (a ++ [n, n] ++ b) = cycles (a ++ [n] ++ b) := by
  have : turn (a ++ [n, n] ++ b) = turn (a ++ [n] ++ b) := by
    simp only [turn, List.foldl_append, List.foldl_cons, List.foldl_nil]
    rw [tpush_twice]
  rw [cycles, this, cycles]
end Go.Sx
end
section
/- Parts: the greatest range of a series' cycles is its greatest load less its least. -/
set_option linter.unusedSimpArgs false
set_option linter.unusedSectionVars false
namespace Go.Sx
def Btw (a b c : Int) : Prop := (a < c ∧ c < b) ∨ (b < c ∧ c < a)
def Trn (a b c : Int) : Prop := (b < a ∧ b < c) ∨ (a < b ∧ c < b)
/-- Every load of the pile lies between the two before it. -/
def ZS (Q : List Int) : Prop := (∀ i, i + 2 < Q.length → Btw (Q.getD i 0) (Q.getD (i + 1) 0) (Q.getD (i + 2) 0)) ∧ (2 ≤ Q.length → Q.getD 0 0 ≠ Q.getD 1 0)
/-- So does every load but the last, where the pile turns. -/
def ZJ (P : List Int) : Prop := (∀ i, i + 3 < P.length → Btw (P.getD i 0) (P.getD (i + 1) 0) (P.getD (i + 2) 0)) ∧ (2 ≤ P.length → P.getD 0 0 ≠ P.getD 1 0) ∧
  (3 ≤ P.length → Trn (P.getD (P.length - 3) 0) (P.getD (P.length - 2) 0) (P.getD (P.length - 1) 0))
def ZI (P : List Int) (lo hi : Int) : Prop := (∀ i, i < P.length → lo ≤ P.getD i 0 ∧ P.getD i 0 ≤ hi) ∧ (∃ i, i < P.length ∧ P.getD i 0 = lo) ∧ (∃ i, i < P.length ∧ P.getD i 0 = hi)
def ZD (P : List Int) (up : Bool) : Prop := 2 ≤ P.length → (up = true ↔ P.getD (P.length - 2) 0 < P.getD (P.length - 1) 0)
structure ZR (P : List Int) (r : List (Int × Int) × List Int) (lo hi : Int) (up : Bool) : Prop where
  c : ∀ c ∈ r.1, c.1 ≤ hi - lo
  s : ZS r.2
  i : ZI r.2 lo hi
  d : ZD r.2 up
  n : 1 ≤ r.2.length
  l : r.2.getD (r.2.length - 1) 0 = P.getD (P.length - 1) 0
  m : 2 ≤ P.length → 2 ≤ r.2.length
theorem red_hull {lo hi : Int} {up : Bool} : ∀ (n : Nat) (P : List Int), P.length = n → 1 ≤ n → ZJ P → ZI P lo hi → ZD P up → ZR P (red P) lo hi up := by
  intro n
  induction n using Nat.strongRecOn with
  | _ n ih =>
    intro P hn h0 hJ hI hD
    obtain ⟨j1, j2, j3⟩ := hJ
    obtain ⟨i1, ⟨il, ill, ilv⟩, ⟨ih', ihl, ihv⟩⟩ := hI
    by_cases h : 3 ≤ P.length
    case neg =>
      rw [red_small (by omega)]
      exact ⟨by simp, ⟨fun i (hk : i + 2 < P.length) => by omega, j2⟩, ⟨i1, ⟨il, ill, ilv⟩, ⟨ih', ihl, ihv⟩⟩, hD, show 1 ≤ P.length by omega, rfl, fun h => h⟩
    have t := j3 h
    have ba := i1 (P.length - 3) (by omega)
    have bb := i1 (P.length - 2) (by omega)
    have bq := i1 (P.length - 1) (by omega)
    have hd := hD (by omega)
    by_cases h1 : dist (P.getD (P.length - 1) 0) (P.getD (P.length - 2) 0) < dist (P.getD (P.length - 2) 0) (P.getD (P.length - 3) 0)
    · rw [red_stop h h1]
      refine ⟨by simp, ⟨fun i (hk : i + 2 < P.length) => ?_, j2⟩, ⟨i1, ⟨il, ill, ilv⟩, ⟨ih', ihl, ihv⟩⟩, hD, show 1 ≤ P.length by omega, rfl, fun h => h⟩
      show Btw (P.getD i 0) (P.getD (i + 1) 0) (P.getD (i + 2) 0)
      by_cases h2 : i + 3 < P.length
      · exact j1 i h2
      · have e : i = P.length - 3 := by omega
        subst e
        rw [show P.length - 3 + 1 = P.length - 2 by omega, show P.length - 3 + 2 = P.length - 1 by omega]
        unfold dist at h1; unfold Trn at t; unfold Btw; omega
    have h1' := h1
    unfold dist at h1'
    have hdc : dist (P.getD (P.length - 2) 0) (P.getD (P.length - 3) 0) ≤ hi - lo := by unfold dist; omega
    by_cases h3 : P.length = 3
    · have g : ∀ i, (P.drop 1).getD i 0 = P.getD (i + 1) 0 := fun i => by simp [List.getD, Nat.add_comm]
      have gl : (P.drop 1).length = 2 := by simp; omega
      rw [red_half h3 h1]
      rw [h3] at t ba bb bq hd h1' hdc
      simp only [Nat.reduceSub] at t ba bb bq hd h1' hdc
      have hr := ih (P.drop 1).length (by omega) (P.drop 1) rfl (by omega)
        ⟨fun i hk => by omega, fun _ => by rw [g, g]; unfold Trn at t; simp only [Nat.zero_add, Nat.reduceAdd]; omega, fun hh => by omega⟩
        ⟨fun i hk => by rw [g]; exact i1 _ (by omega), by
            by_cases e : il = 0
            · subst e
              unfold Trn at t
              refine ⟨1, by omega, ?_⟩
              rw [g]; simp only [Nat.reduceAdd]
              have b0 := i1 0 (by omega)
              rcases Int.lt_or_le (P.getD 2 0) (P.getD 1 0) with k | k
              · omega
              · omega
            · exact ⟨il - 1, by omega, by rw [g, show il - 1 + 1 = il by omega, ilv]⟩, by
            by_cases e : ih' = 0
            · subst e
              unfold Trn at t
              refine ⟨1, by omega, ?_⟩
              rw [g]; simp only [Nat.reduceAdd]
              have b0 := i1 0 (by omega)
              rcases Int.lt_or_le (P.getD 2 0) (P.getD 1 0) with k | k
              · omega
              · omega
            · exact ⟨ih' - 1, by omega, by rw [g, show ih' - 1 + 1 = ih' by omega, ihv]⟩⟩
        (fun _ => by rw [gl, g, g]; exact hd)
      exact ⟨fun c hc => by
          rcases List.mem_cons.1 hc with e | hc
          · rw [e, h3]; exact hdc
          · exact hr.c c hc, hr.s, hr.i, hr.d, hr.n, by rw [hr.l, gl, g, h3], fun _ => hr.m (by omega)⟩
    · rw [red_whole (by omega) h1]
      have gl : (P.take (P.length - 3) ++ P.drop (P.length - 1)).length = P.length - 2 := by simp only [List.length_append, List.length_take, List.length_drop]; omega
      have g1 : ∀ i, i < P.length - 3 → (P.take (P.length - 3) ++ P.drop (P.length - 1)).getD i 0 = P.getD i 0 := fun i hk => by
        simp only [List.getD]
        rw [List.getElem?_append_left (by simp only [List.length_take]; omega), List.getElem?_take_of_lt hk]
      have g2 : (P.take (P.length - 3) ++ P.drop (P.length - 1)).getD (P.length - 3) 0 = P.getD (P.length - 1) 0 := by
        simp only [List.getD]
        rw [List.getElem?_append_right (by simp only [List.length_take]; omega), List.getElem?_drop]
        congr 2
        simp only [List.length_take]; omega
      generalize P.take (P.length - 3) ++ P.drop (P.length - 1) = R at *
      have b1 := j1 (P.length - 4) (by omega)
      rw [show P.length - 4 + 1 = P.length - 3 by omega, show P.length - 4 + 2 = P.length - 2 by omega] at b1
      have bc := i1 (P.length - 4) (by omega)
      have hr := ih R.length (by omega) R rfl (by omega)
        ⟨fun i hk => by rw [g1 i (by omega), g1 (i + 1) (by omega), g1 (i + 2) (by omega)]; exact j1 i (by omega), fun _ => by
            by_cases e : P.length = 4
            · have e1 : (1 : Nat) = P.length - 3 := by omega
              rw [g1 0 (by omega), e1, g2, show (0 : Nat) = P.length - 4 by omega]
              unfold Trn at t; unfold Btw at b1; omega
            · rw [g1 0 (by omega), g1 1 (by omega)]; exact j2 (by omega), fun hh => by
            have b2 := j1 (P.length - 5) (by omega)
            rw [show P.length - 5 + 1 = P.length - 4 by omega, show P.length - 5 + 2 = P.length - 3 by omega] at b2
            rw [show R.length - 3 = P.length - 5 by omega, show R.length - 2 = P.length - 4 by omega, show R.length - 1 = P.length - 3 by omega, g2, g1 _ (by omega), g1 _ (by omega)]
            unfold Trn at *; unfold Btw at b1 b2; omega⟩
        ⟨fun i hk => by
            by_cases e : i < P.length - 3
            · rw [g1 i e]; exact i1 i (by omega)
            · rw [show i = P.length - 3 by omega, g2]; exact bq, by
            by_cases e : il < P.length - 3
            · exact ⟨il, by omega, by rw [g1 _ e, ilv]⟩
            · refine ⟨P.length - 3, by omega, ?_⟩
              rw [g2]
              have : il = P.length - 3 ∨ il = P.length - 2 ∨ il = P.length - 1 := by omega
              unfold Trn at t; unfold Btw at b1
              rcases this with e | e | e <;> rw [e] at ilv <;> omega, by
            by_cases e : ih' < P.length - 3
            · exact ⟨ih', by omega, by rw [g1 _ e, ihv]⟩
            · refine ⟨P.length - 3, by omega, ?_⟩
              rw [g2]
              have : ih' = P.length - 3 ∨ ih' = P.length - 2 ∨ ih' = P.length - 1 := by omega
              unfold Trn at t; unfold Btw at b1
              rcases this with e | e | e <;> rw [e] at ihv <;> omega⟩
        (fun _ => by
          rw [hd, show R.length - 2 = P.length - 4 by omega, show R.length - 1 = P.length - 3 by omega, g2, g1 _ (by omega)]
          unfold Trn at t; unfold Btw at b1; omega)
      exact ⟨fun c hc => by
          rcases List.mem_cons.1 hc with e | hc
          · rw [e]; exact hdc
          · exact hr.c c hc, hr.s, hr.i, hr.d, hr.n, by rw [hr.l, show R.length - 1 = P.length - 3 by omega, g2], fun _ => hr.m (by omega)⟩
end Go.Sx
end
