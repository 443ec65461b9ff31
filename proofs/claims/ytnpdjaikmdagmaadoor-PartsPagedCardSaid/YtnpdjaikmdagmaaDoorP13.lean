/- A part of a proof; no conditions. -/
import Derived.Test.YtnpdjaikmdagmaaDoorP12
import Derived.Test.YtnpdjaikmdagmaaDoorP10
set_option linter.unusedSimpArgs false
set_option linter.unusedVariables false
set_option linter.unusedSectionVars false
section
/- Parts: the program's pages (covered). No conditions. -/
set_option linter.unusedSimpArgs false
set_option linter.unusedSectionVars false
set_option maxRecDepth 100000
set_option maxHeartbeats 20000000
namespace Go.Sx
open Go.Proofs
attribute [local irreducible] HLe

/-! covered -/
@[simp] theorem w113 : withinB 1 1 3 = true := rfl
def isP (b : Bool) (n : Int) : Bool := if b then n == 0 else decide (1 < n)
abbrev iszS : PSpec := { dom := Int, enc := fun d => [.int .i64 d], dec := fun l => (l.getD 0 .top).toInt, pre := fun _ => True, res := fun d => .bool (isP true d) }
abbrev ismS : PSpec := { dom := Int, enc := fun d => [.int .i64 d], dec := fun l => (l.getD 0 .top).toInt, pre := fun _ => True, res := fun d => .bool (isP false d) }
noncomputable abbrev E25 : Env := { P := Tryd.prog, fn := tbl [], own := [], key := 2500, nt := 5 }
theorem b25 : PureBody E25 [] Tryd.f25 iszS := by
  refine pb ?_
  rintro n _
  simp -dsimp [Tryd.f25, E25, isP]
  repeat' (first | omega | (simp -dsimp [E25, ri, cellp, ints, isP]) | (refine Also.intro ?_ fun _ => ?_) | (refine Hold.intro fun _ => ?_) | (refine And.intro ?_ ?_))
theorem ok25 : FnOK Tryd.prog 25 (.pure iszS) := pure_fn (E := E25) rfl LOK.nil (ok := []) (fn := Tryd.f25) (by kernel_rfl) (by kernel_rfl) (by kernel_rfl) (by kernel_rfl) rfl (fun _ _ => by simp) b25
noncomputable abbrev E27 : Env := { P := Tryd.prog, fn := tbl [], own := [], key := 2700, nt := 5 }
theorem b27 : PureBody E27 [] Tryd.f27 ismS := by
  refine pb ?_
  rintro n _
  simp -dsimp [Tryd.f27, E27, isP]
  repeat' (first | omega | (simp -dsimp [E27, ri, cellp, ints, isP]) | (refine Also.intro ?_ fun _ => ?_) | (refine Hold.intro fun _ => ?_) | (refine And.intro ?_ ?_))
theorem ok27 : FnOK Tryd.prog 27 (.pure ismS) := pure_fn (E := E27) rfl LOK.nil (ok := []) (fn := Tryd.f27) (by kernel_rfl) (by kernel_rfl) (by kernel_rfl) (by kernel_rfl) rfl (fun _ _ => by simp) b27
@[simp] def cvE (d : Int × List Sp × Bool) : List V := [.int .i64 d.1, .sl 2 (d.2.1.map Sp.row), .fn (if d.2.2 then 25 else 27) []]
theorem cvE_inj (a b : Int × List Sp × Bool) (h : cvE a = cvE b) : a = b := by
  obtain ⟨a1, a2, a3⟩ := a; obtain ⟨b1, b2, b3⟩ := b
  simp only [cvE, List.cons.injEq, V.sl.injEq, V.int.injEq, true_and, and_true] at h
  obtain ⟨h1, h2, h3⟩ := h
  rw [h1, sps_inj h2]
  cases a3 <;> cases b3 <;> simp at h3 ⊢
theorem cvE_dec1 (n : Int) (a : List Sp) : decC cvE [.int .i64 n, .sl 2 (a.map Sp.row), .fn 25 []] = (n, a, true) := decC_eq cvE_inj (n, a, true)
theorem cvE_dec0 (n : Int) (a : List Sp) : decC cvE [.int .i64 n, .sl 2 (a.map Sp.row), .fn 27 []] = (n, a, false) := decC_eq cvE_inj (n, a, false)
/-- The hours that are on so many pages. -/
def covL (n : Int) (pg : List Sp) (b : Bool) : List Sp := if ckP n pg = 0 then rns (fun h => isP b (many pg h : Nat)) n.toNat else []
noncomputable abbrev covS : PSpec := mkP cvE (fun d => d.2.1.length ≤ 10000000000000) fun d => .tup [.sl 2 ((covL d.1 d.2.1 d.2.2).map Sp.row), .int .i64 (ckP d.1 d.2.1)]
theorem bad_pg {n : Int} (h : 0 ≤ n ∧ n ≤ 100000) (p : Sp) : pgOk n p = (!(spN p) && decide (0 ≤ p.lo) && decide (p.hi ≤ n - 1)) := by
  rw [Bool.eq_iff_iff]; simp [pgOk, spN, withinB]; omega
theorem many_le (pg : List Sp) (h : Int) : many pg h ≤ pg.length := manyTo_le pg h pg.length
theorem cov_step {f : Nat → Bool} {c : List Int} {k : Nat} {x : Int} (h : c[k]? = some x) : psum c (k + 1) = psum c k + x := by
  simp [psum, List.getD, h]
noncomputable abbrev E24 : Env := { P := Tryd.prog, fn := tbl [(37, .pure withinS), (53, .pure bxkS), (25, .pure iszS), (27, .pure ismS)], own := [30], key := 2400, nt := 106 }
theorem b24 : PureBody E24 [] Tryd.f24 covS := by
  refine pb ?_
  rintro ⟨n, l, b⟩ hl
  have hl : l.length ≤ 10000000000000 := hl
  have hC : ckP n l = if withinB n 0 100000 = true then (if l.length ≤ 20 then (if l.all (pgOk n) = true then 0 else 10) else 2) else 1 := rfl
  have hL : covL n l b = if ckP n l = 0 then rns (fun h => isP b (many l h : Nat)) n.toNat else [] := rfl
  cases h1 : withinB n 0 100000
  · rw [h1, if_neg (by decide)] at hC
    rw [hC, if_neg (by omega)] at hL
    simp -dsimp [Tryd.f24, E24]
    repeat' (first | omega | (simp -dsimp [E24, ri, cellp, ints, hl, h1, hC, hL]) | (refine Also.intro ?_ fun _ => ?_) | (refine Hold.intro fun _ => ?_) | (refine And.intro ?_ ?_))
  rw [h1, if_pos rfl] at hC
  have h1' := h1
  simp only [withinB, decide_eq_true_eq] at h1'
  obtain ⟨N, rfl⟩ : ∃ N : Nat, n = N := ⟨n.toNat, by omega⟩
  have wn : IntKind.wrap .i64 ((N : Int) + 1) = (N + 1 : Nat) := wrap_id (by omega) (by omega)
  by_cases h2 : l.length ≤ 20
  case neg =>
    rw [if_neg h2] at hC
    rw [hC, if_neg (by omega)] at hL
    have e1 : ((20 : Int) < l.length) = True := eq_true (by omega)
    have e2 : (20 < l.length) = True := eq_true (by omega)
    simp -dsimp [Tryd.f24, E24]
    repeat' (first | omega | (simp -dsimp [E24, ri, cellp, ints, hl, h1, e1, e2, hC, hL]) | (refine Also.intro ?_ fun _ => ?_) | (refine Hold.intro fun _ => ?_) | (refine And.intro ?_ ?_))
  rw [if_pos h2] at hC
  have e1 : ((20 : Int) < l.length) = False := eq_false (by omega)
  have e2 : (20 < l.length) = False := eq_false (by omega)
  have hN8 : (N + 1) * 8 ≤ 140737488355328 := by omega
  simp -dsimp [Tryd.f24, E24]
  repeat' (first | omega | (simp -dsimp [E24, ri, cellp, ints, hl, h1, e1, e2, wn, hN8]) | (refine Also.intro ?_ fun _ => ?_) | (refine Hold.intro fun _ => ?_) | (refine And.intro ?_ ?_))
  refine awp_loop [26, 27, 28, 10, 29, 30, 31, 32, 33, 34, 35, 36, 37, 38, 39, 40, 41, 42, 43, 44, 6, 7, 45, 46, 47, 48, 49, 50, 51, 52, 53, 54, 55, 56, 57, 58, 59, 60, 25] (fun k : { k : Nat // k ≤ l.length ∧ ∀ j (h : j < l.length), j < k → pgOk N l[j] = true } => [(25, (true, .int .i64 (k.1 : Nat))), (6, (true, .nil))]) (fun k => hps [(2422, { base := 0, blks := [{ z := 1, els := (chTo N l k.1).map ri, ty := 3 }] }), (2410, { base := k.1, blks := [] }), (2430, { base := k.1, blks := [] })] noH) (fun k => l.length - k.1) ⟨0, by omega, fun _ _ h => by omega⟩ ?_ ?_ ?_
  · simp [okAll, okv]
  · exact (by (try simp -dsimp only [hpush_noH, hpush_hps, hps_over]); refine hle_hps ?_; simp -dsimp [allK, chTo, ri]; repeat' (first | (refine And.intro ?_ ?_) | (refine sLe.same ?_ ?_ <;> (simp; done)) | (refine sLe.clear ?_ ?_ <;> (first | (simp; done) | (simp; omega))) | (refine sLe.drop 1 ?_ ?_ ?_ <;> (simp; done))))
  · rintro ⟨k, hk, hall⟩
    dsimp only
    by_cases hk1 : k < l.length
    · have hki : (k : Int) < l.length := by omega
      have wk : IntKind.wrap .i64 ((k : Int) + 1) = (k + 1 : Nat) := wrap_id (by omega) (by omega)
      obtain ⟨p, hp⟩ : ∃ p, l[k]? = some p := ⟨_, List.getElem?_eq_getElem hk1⟩
      have hp' : l[k] = p := (List.getElem?_eq_some_iff.1 hp).2
      have hbx := slE_dec1 p
      have hK := bad_pg h1' p
      have hcl := chTo_len N l k
      cases hb : pgOk N p
      · rw [hb] at hK
        have hA : l.all (pgOk N) = false := by
          cases hA : l.all (pgOk N) with
          | false => rfl
          | true => have := List.all_eq_true.1 hA _ (List.getElem_mem hk1); rw [hp', hb] at this; cases this
        rw [hA, if_neg (by decide)] at hC
        rw [hC, if_neg (by omega)] at hL
        have wN : IntKind.wrap .i64 ((N : Int) - 1) = N - 1 := wrap_id (by omega) (by omega)
        generalize chTo N l k = c at *
        cases hsp : spN p
        · rw [hsp] at hK
          by_cases hlo : p.lo < 0
          · simp -dsimp [hki, Sp.row]
            repeat' (first | omega | (simp -dsimp [E24, ri, cellp, ints, hki, hk1, wk, hp, hp', hbx, hsp, hlo, wN, hC, hL, Sp.row]) | (refine Also.intro ?_ fun _ => ?_) | (refine Hold.intro fun _ => ?_) | (refine And.intro ?_ ?_))
          · have hhi : ((N : Int) - 1 < p.hi) = True := eq_true (by
              apply Classical.byContradiction; intro h
              rw [decide_eq_true (by omega : 0 ≤ p.lo), decide_eq_true (by omega : p.hi ≤ (N : Int) - 1)] at hK
              cases hK)
            have hlo' : (p.lo < 0) = False := eq_false hlo
            simp -dsimp [hki, Sp.row]
            repeat' (first | omega | (simp -dsimp [E24, ri, cellp, ints, hki, hk1, wk, hp, hp', hbx, hsp, hlo', hhi, wN, hC, hL, Sp.row]) | (refine Also.intro ?_ fun _ => ?_) | (refine Hold.intro fun _ => ?_) | (refine And.intro ?_ ?_))
        · simp -dsimp [hki, Sp.row]
          repeat' (first | omega | (simp -dsimp [E24, ri, cellp, ints, hki, hk1, wk, hp, hp', hbx, hsp, hC, hL, Sp.row]) | (refine Also.intro ?_ fun _ => ?_) | (refine Hold.intro fun _ => ?_) | (refine And.intro ?_ ?_))
      · have hv : 0 ≤ p.lo ∧ p.lo ≤ p.hi ∧ p.hi ≤ (N : Int) - 1 := by
          simp only [pgOk, withinB, Bool.and_eq_true, decide_eq_true_eq] at hb; omega
        rw [hb] at hK
        have hsp : spN p = false := by cases h : spN p <;> rw [h] at hK <;> first | rfl | (simp at hK)
        have hch : chTo N l (k + 1) = ((chTo N l k).set p.lo.toNat ((chTo N l k).getD p.lo.toNat 0 + 1)).set (p.hi + 1).toNat (((chTo N l k).set p.lo.toNat ((chTo N l k).getD p.lo.toNat 0 + 1)).getD (p.hi + 1).toNat 0 - 1) := by
          simp [chTo, List.getD, hp]
        have hbd := chTo_bd (hrs := N) (pg := l) k
        generalize chTo N l k = c at *
        obtain ⟨a, ha⟩ : ∃ a : Nat, p.lo = a := ⟨p.lo.toNat, by omega⟩
        obtain ⟨z, hz⟩ : ∃ z : Nat, p.hi = z := ⟨p.hi.toNat, by omega⟩
        have hac : a < c.length := by omega
        have wz : IntKind.wrap .i64 ((z : Int) + 1) = (z + 1 : Nat) := wrap_id (by omega) (by omega)
        have wN : IntKind.wrap .i64 ((N : Int) - 1) = N - 1 := wrap_id (by omega) (by omega)
        have hNz : ((N : Int) - 1 < z) = False := eq_false (by omega)
        rw [ha, hz, Int.toNat_natCast, show ((z : Int) + 1).toNat = z + 1 by omega] at hch
        have hba := hbd a
        have ea : c[a]? = some c[a] := List.getElem?_eq_getElem hac
        rw [show c.getD a 0 = c[a] by simp [List.getD, ea]] at hch hba
        obtain ⟨x, hx⟩ : ∃ x, c[a] = x := ⟨_, rfl⟩
        rw [hx] at ea hch hba
        have wx : IntKind.wrap .i64 (x + 1) = x + 1 := wrap_id (by omega) (by omega)
        have hse : (c.map ri).set a [V.int .i64 (x + 1)] = (c.set a (x + 1)).map ri := by rw [List.map_set]; rfl
        obtain ⟨c1, hc1⟩ : ∃ c1, c.set a (x + 1) = c1 := ⟨_, rfl⟩
        have hc1l : c1.length = N + 1 := by rw [← hc1, List.length_set, hcl]
        have hc1b : ∀ i, -(k : Int) - 1 ≤ c1.getD i 0 ∧ c1.getD i 0 ≤ k + 1 := by
          intro i
          have := hbd i
          rw [← hc1]
          by_cases e : a = i
          · subst e; simp [List.getD, hac]; omega
          · simp only [List.getD, List.getElem?_set_ne e]; simp only [List.getD] at this; omega
        rw [hc1] at hch hse
        have hzc : z + 1 < c1.length := by omega
        have ez : c1[z + 1]? = some c1[z + 1] := List.getElem?_eq_getElem hzc
        have hbz := hc1b (z + 1)
        rw [show c1.getD (z + 1) 0 = c1[z + 1] by simp [List.getD, ez]] at hch hbz
        obtain ⟨y, hy⟩ : ∃ y, c1[z + 1] = y := ⟨_, rfl⟩
        rw [hy] at ez hch hbz
        have wy : IntKind.wrap .i64 (y - 1) = y - 1 := wrap_id (by omega) (by omega)
        have hse2 : (c1.map ri).set (z + 1) [V.int .i64 (y - 1)] = (c1.set (z + 1) (y - 1)).map ri := by rw [List.map_set]; rfl
        have hsl : (c1.set (z + 1) (y - 1)).length = N + 1 := by rw [List.length_set, hc1l]
        generalize c1.set (z + 1) (y - 1) = c2 at *
        have hpr : p.row = [.int .i64 (a : Int), .int .i64 (z : Int)] := by rw [Sp.row, ha, hz]
        rw [ha, hz] at hbx
        have ha0 : ((a : Int) < 0) = False := eq_false (by omega)
        clear hbd hc1b hba hbz hK hL hC
        simp -dsimp [hki]
        repeat' (first | omega | (simp -dsimp (maxSteps := 4000000) [E24, ri, cellp, ints, hki, hk1, wk, hp, hp', hpr, hbx, hsp, wN, hNz, ha0, wz, wx, wy, hcl, hac, ea, hx, hse, hc1l, hzc, ez, hy, hse2, hsl]) | (refine Also.intro ?_ fun _ => ?_) | (refine Hold.intro fun _ => ?_) | (refine And.intro ?_ ?_))
        refine ⟨k + 1, tle_chain rfl ?_, (by (try simp -dsimp only [hpush_noH, hpush_hps, hps_over]); refine hle_hps ?_; simp -dsimp [allK, hch, ri]; repeat' (first | (refine And.intro ?_ ?_) | (refine sLe.same ?_ ?_ <;> (simp; done)) | (refine sLe.clear ?_ ?_ <;> (first | (simp; done) | (simp; omega))) | (refine sLe.drop 1 ?_ ?_ ?_ <;> (simp; done)))), ⟨by omega, fun j h hj => ?_⟩, by omega⟩
        · simp [okAll, okv]
        · by_cases hjk : j = k
          · subst hjk; rw [hp']; exact hb
          · exact hall j h (by omega)
    · have hkn : ¬ (k : Int) < l.length := by omega
      have hke : k = l.length := by omega
      subst hke
      have hA : l.all (pgOk N) = true := List.all_eq_true.2 fun x hx => by
        obtain ⟨j, hj, rfl⟩ := List.getElem_of_mem hx
        exact hall j hj (by omega)
      rw [hA, if_pos rfl] at hC
      rw [hC, if_pos rfl, Int.toNat_natCast] at hL
      have hok := (ckP_ok hC).2.2.2
      have hpm := fun h hh => psum_many hok l.length h (Nat.le_refl _) hh
      have hcl := chTo_len N l l.length
      have hml := fun h : Nat => many_le l h
      have hm : ∀ h, many l h = manyTo l h l.length := fun _ => rfl
      generalize chTo N l l.length = c at *
      simp -dsimp [hkn]
      repeat' (first | omega | (simp -dsimp [E24, ri, cellp, ints, hkn]) | (refine Also.intro ?_ fun _ => ?_) | (refine Hold.intro fun _ => ?_) | (refine And.intro ?_ ?_))
      refine awp_loop_g [(6, 2478, 2, 34)] rfl (by simp) [63, 64, 12, 65, 66, 67, 68, 69, 70, 11, 71, 72, 13, 80, 81, 82, 83, 79, 85, 86, 87, 88, 89, 90, 91, 92, 93, 94, 95, 96, 97, 84, 98, 99, 100, 101, 102, 103, 73, 74, 75, 76, 77, 78, 6, 104, 62] (fun k : Fin (N + 1) => [(62, (true, .int .i64 (k.1 : Nat))), (11, (true, .int .i64 (psum c k.1))), (6, (true, .bsl 2478 0 (rns (fun h => isP b (many l h : Nat)) k.1).length))])
        (fun k => hps [(2478, { base := 0, blks := [{ z := 2, els := (rns (fun h => isP b (many l h : Nat)) k.1).map Sp.row, ty := 34 }] }), (2422, { base := 0, blks := [{ z := 1, els := c.map ri, ty := 3 }] }), (2410, { base := l.length, blks := [] }), (2430, { base := l.length, blks := [] })] noH) (fun k => N - k.1) ⟨0, by omega⟩ ?_ ?_ ?_
      · simp [okAll, okv, rns, psum]
      · exact (by (try simp -dsimp only [hpush_noH, hpush_hps, hps_over]); refine hle_hps ?_; simp -dsimp [allK, rns]; repeat' (first | (refine And.intro ?_ ?_) | (refine sLe.same ?_ ?_ <;> (simp; done)) | (refine sLe.clear ?_ ?_ <;> (first | (simp; done) | (simp; omega))) | (refine sLe.drop 1 ?_ ?_ ?_ <;> (simp; done))))
      rintro ⟨k, hk⟩
      simp only
      by_cases hk1 : k < N
      · have hki : (k : Int) < N := by omega
        have wk : IntKind.wrap .i64 ((k : Int) + 1) = (k + 1 : Nat) := wrap_id (by omega) (by omega)
        have wk1 : IntKind.wrap .i64 ((k : Int) - 1) = (k : Int) - 1 := wrap_id (by omega) (by omega)
        have hkc : k < c.length := by omega
        have ek : c[k]? = some c[k] := List.getElem?_eq_getElem hkc
        obtain ⟨x, hx⟩ : ∃ x, c[k] = x := ⟨_, rfl⟩
        rw [hx] at ek
        have hst := cov_step (f := fun _ => true) ek
        have hpk := hpm k hk1
        obtain ⟨m, hm'⟩ : ∃ m, many l (k : Int) = m := ⟨_, rfl⟩
        rw [← hm, hm'] at hpk
        have hmk := hml k
        rw [hm'] at hmk
        rw [hpk] at hst
        generalize psum c k = ps at *
        have wps : IntKind.wrap .i64 (ps + x) = (m : Nat) := by rw [← hst]; exact wrap_id (by omega) (by omega)
        have hln := rns_len (fun h => isP b (many l h : Nat)) k
        generalize hf : (fun h : Nat => isP b (many l h : Nat)) = f at *
        have hI : f k = isP b (m : Nat) := by rw [← hf]; simp only; rw [hm']
        clear hf
        cases hw : isP b (m : Nat) <;> rw [hw] at hI
        · have hT := rns_no hI
          generalize rns f k = T at *
          cases b
          all_goals
            simp -dsimp [hki]
            repeat' (first | omega | (simp -dsimp [E24, ri, cellp, ints, hki, wk, wk1, hkc, ek, hx, wps, hw]) | (refine Also.intro ?_ fun _ => ?_) | (refine Hold.intro fun _ => ?_) | (refine And.intro ?_ ?_))
            refine ⟨⟨k + 1, by omega⟩, tle_chain rfl ?_, (by (try simp -dsimp only [hpush_noH, hpush_hps, hps_over]); refine hle_hps ?_; simp -dsimp [allK, hT]; repeat' (first | (refine And.intro ?_ ?_) | (refine sLe.same ?_ ?_ <;> (simp; done)) | (refine sLe.clear ?_ ?_ <;> (first | (simp; done) | (simp; omega))) | (refine sLe.drop 1 ?_ ?_ ?_ <;> (simp; done)))), by simp only; omega⟩
            simp [okAll, okv, hT, hpk]
        · rcases snoc_cases (rns f k) with e | ⟨q, s, e⟩
          · have hT := rns_nil hI e
            rw [e] at hln ⊢
            cases b
            all_goals
              simp -dsimp [hki]
              repeat' (first | omega | (simp -dsimp [E24, ri, cellp, ints, hki, wk, wk1, hkc, ek, hx, wps, hw]) | (refine Also.intro ?_ fun _ => ?_) | (refine Hold.intro fun _ => ?_) | (refine And.intro ?_ ?_))
              refine ⟨⟨k + 1, by omega⟩, tle_chain rfl ?_, (by (try simp -dsimp only [hpush_noH, hpush_hps, hps_over]); refine hle_hps ?_; simp -dsimp [allK, hT, Sp.row]; repeat' (first | (refine And.intro ?_ ?_) | (refine sLe.same ?_ ?_ <;> (simp; done)) | (refine sLe.clear ?_ ?_ <;> (first | (simp; done) | (simp; omega))) | (refine sLe.drop 1 ?_ ?_ ?_ <;> (simp; done)))), by simp only; omega⟩
              simp [okAll, okv, hT, hpk]
          · rw [e] at hln
            simp only [List.length_append, List.length_cons, List.length_nil] at hln
            have hqi : (0 : Int) < (q.length : Int) + 1 := by omega
            have wq : IntKind.wrap .i64 ((q.length : Int) + 1 - 1) = (q.length : Nat) := by rw [wrN (by omega) (by omega)]; omega
            have wq' : IntKind.wrap .i64 (q.length : Int) = (q.length : Nat) := wrap_id (by omega) (by omega)
            by_cases hs : s.hi = (k : Int) - 1
            · have hT := rns_more hI e hs
              rw [e]
              cases b
              all_goals
                simp -dsimp [hki]
                repeat' (first | omega | (simp -dsimp [E24, ri, cellp, ints, hki, wk, wk1, hkc, ek, hx, wps, hw, wq, wq', hs, hqi, Sp.row]) | (refine Also.intro ?_ fun _ => ?_) | (refine Hold.intro fun _ => ?_) | (refine And.intro ?_ ?_))
                refine ⟨⟨k + 1, by omega⟩, tle_chain rfl ?_, (by (try simp -dsimp only [hpush_noH, hpush_hps, hps_over]); refine hle_hps ?_; simp -dsimp [allK, hT, Sp.row]; repeat' (first | (refine And.intro ?_ ?_) | (refine sLe.same ?_ ?_ <;> (simp; done)) | (refine sLe.clear ?_ ?_ <;> (first | (simp; done) | (simp; omega))) | (refine sLe.drop 1 ?_ ?_ ?_ <;> (simp; done)))), by simp only; omega⟩
                simp [okAll, okv, hT, hpk]
            · have hT := rns_new hI e hs
              have hs' : (s.hi = (k : Int) - 1) = False := eq_false hs
              have hb16 : (q.length + 1 + 1) * 16 ≤ 140737488355328 := by omega
              rw [e]
              cases b
              all_goals
                simp -dsimp [hki]
                repeat' (first | omega | (simp -dsimp [E24, ri, cellp, ints, hki, wk, wk1, hkc, ek, hx, wps, hw, wq, wq', hs', hqi, hb16, Sp.row]) | (refine Also.intro ?_ fun _ => ?_) | (refine Hold.intro fun _ => ?_) | (refine And.intro ?_ ?_))
                refine ⟨⟨k + 1, by omega⟩, tle_chain rfl ?_, (by (try simp -dsimp only [hpush_noH, hpush_hps, hps_over]); refine hle_hps ?_; simp -dsimp [allK, hT, Sp.row]; repeat' (first | (refine And.intro ?_ ?_) | (refine sLe.same ?_ ?_ <;> (simp; done)) | (refine sLe.clear ?_ ?_ <;> (first | (simp; done) | (simp; omega))) | (refine sLe.drop 1 ?_ ?_ ?_ <;> (simp; done)))), by simp only; omega⟩
                simp [okAll, okv, hT, hpk]
      · have hkn : ¬ (k : Int) < N := by omega
        have hke : k = N := by omega
        subst hke
        simp -dsimp [hkn]
        repeat' (first | omega | (simp -dsimp [E24, ri, cellp, ints, hkn, hC, hL]) | (refine Also.intro ?_ fun _ => ?_) | (refine Hold.intro fun _ => ?_) | (refine And.intro ?_ ?_))
theorem ok24 : FnOK Tryd.prog 24 (.pure covS) := pure_fn (E := E24) rfl (.cons ok37 (.cons ok53 (.cons ok25 (.cons ok27 .nil)))) (ok := []) (fn := Tryd.f24) (by kernel_rfl) (by kernel_rfl) (by kernel_rfl) (by kernel_rfl) rfl (fun _ _ => by simp) b24
end Go.Sx
end
section
/- Contracts of functions that work on an object in the heap: its sites hold a state, all others are left to the caller. No conditions. -/
set_option linter.unusedSimpArgs false
namespace Go.Sx
variable [Gls]
section
variable {σ : Type} {LC : σ → List (Nat × Site)} {keys : List Nat}
/-- A heap whose object is in state s. -/
def Ob (LC : σ → List (Nat × Site)) (s : σ) (h : Hp) : Hp := hps (LC s) h
omit [Gls] in
theorem ob_ne (hk : ∀ s, (LC s).map (·.1) = keys) {s : σ} {h : Hp} {k : Nat} (hn : keys.contains k = false) : Ob LC s h k = h k :=
  hps_not (by rw [hk]; simpa [List.contains_eq_mem] using hn)
omit [Gls] in
theorem ob_ob (hk : ∀ s, (LC s).map (·.1) = keys) (s s' : σ) (h : Hp) : Ob LC s (Ob LC s' h) = Ob LC s h := by
  funext k
  by_cases hn : k ∈ keys
  · exact hps_mem (by rw [hk]; exact hn)
  · have hn' : keys.contains k = false := by simpa [List.contains_eq_mem] using hn
    rw [ob_ne hk hn', ob_ne hk hn', ob_ne hk hn']
omit [Gls] in
theorem ob_over (hk : ∀ s, (LC s).map (·.1) = keys) {s : σ} {h : Hp} {L : List (Nat × Site)} (hn : (L.all fun p => !keys.contains p.1) = true) : hps L (Ob LC s h) = Ob LC s (hps L h) := by
  funext k
  by_cases hm : k ∈ L.map (·.1)
  · have hnk : keys.contains k = false := by
      obtain ⟨p, hp, rfl⟩ := List.mem_map.1 hm
      simpa using List.all_eq_true.1 hn p hp
    rw [ob_ne hk hnk]; exact hps_mem hm
  · rw [hps_not hm]
    by_cases hnk : k ∈ keys
    · exact hps_mem (by rw [hk]; exact hnk)
    · have hn' : keys.contains k = false := by simpa [List.contains_eq_mem] using hnk
      rw [ob_ne hk hn', ob_ne hk hn', hps_not hm]
omit [Gls] in
theorem ob_hget (s : σ) (h : Hp) (k i : Nat) : hget (Ob LC s h) k i = if i < (Ob LC s h k).base then none else (Ob LC s h k).blks[i - (Ob LC s h k).base]? := rfl
omit [Gls] in
theorem ob_hnext (s : σ) (h : Hp) (k : Nat) : hnext (Ob LC s h) k = (Ob LC s h k).base + (Ob LC s h k).blks.length := rfl
omit [Gls] in
theorem ob_hpush (hk : ∀ s, (LC s).map (·.1) = keys) {s : σ} {h : Hp} {k : Nat} (hn : keys.contains k = false) (B : Blk) : hpush (Ob LC s h) k B = Ob LC s (hpush h k B) := by
  funext j
  by_cases hj : j ∈ keys
  · have hne : j ≠ k := by rintro rfl; simp [List.contains_eq_mem, hj] at hn
    simp only [hpush, hne, if_false]
    exact hps_mem (by rw [hk]; exact hj)
  · have hj' : keys.contains j = false := by simpa [List.contains_eq_mem] using hj
    rw [ob_ne hk hj']
    simp only [hpush, ob_ne hk hn, ob_ne hk hj']
omit [Gls] in
theorem ob_hset (hk : ∀ s, (LC s).map (·.1) = keys) {s : σ} {h : Hp} {k i : Nat} (hn : keys.contains k = false) (B : Blk) : hset (Ob LC s h) k i B = Ob LC s (hset h k i B) := by
  funext j
  by_cases hj : j ∈ keys
  · have hne : j ≠ k := by rintro rfl; simp [List.contains_eq_mem, hj] at hn
    simp only [hset, hne, if_false]
    exact hps_mem (by rw [hk]; exact hj)
  · have hj' : keys.contains j = false := by simpa [List.contains_eq_mem] using hj
    rw [ob_ne hk hj']
    simp only [hset, ob_ne hk hn, ob_ne hk hj']
omit [Gls] in
theorem ob_hcut (hk : ∀ s, (LC s).map (·.1) = keys) {s : σ} {h : Hp} {k i : Nat} (hn : keys.contains k = false) : hcut (Ob LC s h) k i = Ob LC s (hcut h k i) := by
  funext j
  by_cases hj : j ∈ keys
  · have hne : j ≠ k := by rintro rfl; simp [List.contains_eq_mem, hj] at hn
    simp only [hcut, hne, if_false]
    exact hps_mem (by rw [hk]; exact hj)
  · have hj' : keys.contains j = false := by simpa [List.contains_eq_mem] using hj
    rw [ob_ne hk hj']
    simp only [hcut, ob_ne hk hn, ob_ne hk hj']
/-- A block of the object is written. -/
theorem ob_write {s s' : σ} {h : Hp} {k i : Nat} {B : Blk} (hk : ∀ s, (LC s).map (·.1) = keys) (hm : keys.contains k = true) (ho : ∀ j ∈ keys, j ≠ k → Ob LC s' h j = Ob LC s h j)
    (hw : Ob LC s' h k = { Ob LC s h k with blks := (Ob LC s h k).blks.set (i - (Ob LC s h k).base) B }) : hset (Ob LC s h) k i B = Ob LC s' h := by
  funext j
  by_cases hj : j = k
  · subst hj; simp only [hset, if_true]; exact hw.symm
  · simp only [hset, hj, if_false]
    by_cases hjk : j ∈ keys
    · exact (ho j hjk hj).symm
    · have hj' : keys.contains j = false := by simpa [List.contains_eq_mem] using hjk
      rw [ob_ne hk hj', ob_ne hk hj']
omit [Gls] in
theorem ob_mt {s : σ} {h : Hp} (hk : ∀ s, (LC s).map (·.1) = keys) : Mt LC keys s h ↔ h = Ob LC s h := by
  constructor
  · intro hm
    exact (hps_self fun k hkk => hm k (by rw [← hk s]; exact hkk)).symm
  · intro he k hkk
    have : h k = Ob LC s h k := congrFun he k
    rw [this]
    exact hps_mem (by rw [hk]; exact hkk)
omit [Gls] in
theorem ob_mt' {s : σ} {h : Hp} (hk : ∀ s, (LC s).map (·.1) = keys) : Mt LC keys s (Ob LC s h) := (ob_mt hk).2 (ob_ob hk s s h).symm
/-- Nothing less is told of the other sites. -/
theorem ob_hle {s : σ} {L L' : List (Nat × Site)} {H : Hp} (h : allK (fun k => sLe (hps L H k) (hps L' H k)) (L.map (·.1) ++ L'.map (·.1))) (hy : (L.map (·.1) ++ L'.map (·.1)).contains 999999999 = false := by first | rfl | simp) : HLe (Ob LC s (hps L H)) (Ob LC s (hps L' H)) := by
  have hb := hle_hpsb (H := H) h hy
  have hns : YS ∉ L.map (·.1) ++ L'.map (·.1) := by
    intro hm
    have : (L.map (·.1) ++ L'.map (·.1)).contains 999999999 = true := by simpa [List.contains_eq_mem] using hm
    rw [hy] at this; cases this
  refine .sites (fun k => ?_) ?_
  · by_cases hm : k ∈ (LC s).map (·.1)
    · have : Ob LC s (hps L' H) k = Ob LC s (hps L H) k := hps_mem hm
      rw [this]; exact .same rfl rfl
    · have e1 : Ob LC s (hps L' H) k = hps L' H k := hps_not hm
      have e2 : Ob LC s (hps L H) k = hps L H k := hps_not hm
      rw [e1, e2]
      by_cases hs : k ∈ L.map (·.1) ++ L'.map (·.1)
      · exact allK_mem h k hs
      · rw [List.mem_append, not_or] at hs
        rw [hps_not hs.1, hps_not hs.2]
        exact .same rfl rfl
  · by_cases hm : YS ∈ (LC s).map (·.1)
    · exact hps_mem hm
    · have e1 : Ob LC s (hps L' H) YS = hps L' H YS := hps_not hm
      have e2 : Ob LC s (hps L H) YS = hps L H YS := hps_not hm
      rw [e1, e2]
      exact hb.2
section
variable {D : Type}
open Classical in
/-- A contract of a function that works on the object. -/
noncomputable def obS (LC : σ → List (Nat × Site)) (keys : List Nat) (enc : σ → D → List V) (pre : σ → D → Hp → Prop) (res : σ → D → Hp → V) (nxt : σ → D → σ) (fin : σ → D → Hp → Hp) : HSpec where
  go args h := if x : ∃ p : σ × D, Mt LC keys p.1 h ∧ args = enc p.1 p.2 then ⟨pre x.choose.1 x.choose.2 h, res x.choose.1 x.choose.2 h, Ob LC (nxt x.choose.1 x.choose.2) (fin x.choose.1 x.choose.2 h)⟩ else bad h
variable {enc : σ → D → List V} {pre : σ → D → Hp → Prop} {res : σ → D → Hp → V} {nxt : σ → D → σ} {fin : σ → D → Hp → Hp}
omit [Gls] in
theorem obS_go (hk : ∀ s, (LC s).map (·.1) = keys) (inj : ∀ s s', (∀ k ∈ keys, hps (LC s) noH k = hps (LC s') noH k) → s = s') (ein : ∀ s d d', enc s d = enc s d' → d = d') (s : σ) (d : D) (h : Hp) :
    (obS LC keys enc pre res nxt fin).go (enc s d) (Ob LC s h) = ⟨pre s d (Ob LC s h), res s d (Ob LC s h), Ob LC (nxt s d) (fin s d (Ob LC s h))⟩ := by
  have x : ∃ p : σ × D, Mt LC keys p.1 (Ob LC s h) ∧ enc s d = enc p.1 p.2 := ⟨(s, d), ob_mt' hk, rfl⟩
  have e1 : x.choose.1 = s := inj _ _ fun k hkk => ((x.choose_spec.1 k hkk).symm.trans (ob_mt' (h := h) hk k hkk))
  have e2 : x.choose.2 = d := ein s _ _ (by have := x.choose_spec.2; rw [e1] at this; exact this.symm)
  simp only [obS, dif_pos x, e1, e2]
omit [Gls] in
theorem obS_inv (hk : ∀ s, (LC s).map (·.1) = keys) {args : List V} {h : Hp} (hc : ((obS LC keys enc pre res nxt fin).go args h).c) :
    ∃ s d, h = Ob LC s h ∧ args = enc s d ∧ pre s d h ∧ (obS LC keys enc pre res nxt fin).go args h = ⟨pre s d h, res s d h, Ob LC (nxt s d) (fin s d h)⟩ := by
  by_cases x : ∃ p : σ × D, Mt LC keys p.1 h ∧ args = enc p.1 p.2
  · simp only [obS, dif_pos x] at hc ⊢
    exact ⟨x.choose.1, x.choose.2, (ob_mt hk).1 x.choose_spec.1, x.choose_spec.2, hc, rfl⟩
  · simp only [obS, dif_neg x] at hc
    exact hc.elim
end
end
/-- These sites hold nothing. -/
def Blank (own : List Nat) (h : Hp) : Prop := ∀ k ∈ own, h k = { base := (h k).base, blks := [] }
/-- What was made at these sites is forgotten. -/
def bmp (own : List Nat) (n : Nat) (h : Hp) : Hp := hps (own.map fun k => (k, { base := (h k).base + n, blks := [] })) h
omit [Gls] in
theorem Blank.self {own : List Nat} {h : Hp} (hb : Blank own h) : h = hps (own.map fun k => (k, { base := (h k).base, blks := [] })) h := by
  refine (hps_self fun k hk => ?_).symm
  have hk' : k ∈ own := by simpa [List.map_map, Function.comp_def] using hk
  rw [hb k hk']
  clear hk
  induction own with
  | nil => cases hk'
  | cons a r ih =>
    simp only [List.map_cons, hps]
    by_cases e : k = a
    · subst e; rw [if_pos rfl]
    · rw [if_neg e]
      rcases List.mem_cons.1 hk' with h | h
      · exact absurd h e
      · exact ih (fun j hj => hb j (by simp [hj])) h
end Go.Sx
end
section
/- Parts: turning points. No conditions. -/
set_option linter.unusedSimpArgs false
set_option maxRecDepth 100000
set_option maxHeartbeats 1000000
namespace Go.Sx
open Go.Proofs

def tpush (out : List Int) (n : Int) : List Int :=
  if 0 < out.length ∧ out.getD (out.length - 1) 0 = n then out
  else if 1 < out.length ∧ decide (out.getD (out.length - 2) 0 < out.getD (out.length - 1) 0) = decide (out.getD (out.length - 1) 0 < n) then out.set (out.length - 1) n
  else out ++ [n]
def turn (l : List Int) : List Int := l.foldl tpush []
theorem tpush_len (out : List Int) (n : Int) : (tpush out n).length ≤ out.length + 1 := by
  unfold tpush
  split
  · omega
  · split
    · simp
    · simp
theorem turn_take (l : List Int) {k : Nat} (hk : k < l.length) : turn (l.take (k + 1)) = tpush (turn (l.take k)) l[k] := by
  unfold turn
  rw [List.take_add_one, List.getElem?_eq_getElem hk, List.foldl_append]; rfl
theorem turn_len (l : List Int) : (turn l).length ≤ l.length := by
  have : ∀ k, (turn (l.take k)).length ≤ k := by
    intro k
    induction k with
    | zero => simp [turn]
    | succ k ih =>
      by_cases hk : k < l.length
      · rw [turn_take l hk]; have := tpush_len (turn (l.take k)) l[k]; omega
      · rw [List.take_of_length_le (by omega)]
        rw [List.take_of_length_le (by omega)] at ih; omega
  have := this l.length
  rwa [List.take_length] at this
abbrev turnS : PSpec := { dom := List Int, enc := fun d => [ints d], dec := fun l => (l.getD 0 .top).toInts, pre := fun d => d.length ≤ 1000000, res := fun d => ints (turn d) }
noncomputable abbrev E76 : Env := { P := Tryd.prog, fn := tbl [], own := [], key := 7600, nt := 61 }
theorem b76 : PureBody E76 [] Tryd.f76 turnS := by
  refine pb ?_
  rintro l hl
  simp -dsimp [Tryd.f76, E76, ints]
  repeat' (first | omega | (simp -dsimp [E76, ri, cellp, ints, hl]) | (refine Also.intro ?_ fun _ => ?_) | (refine Hold.intro fun _ => ?_) | (refine And.intro ?_ ?_))
  refine awp_loop_g [(2, 7617, 1, 3)] rfl (by simp) [9, 10, 11, 4, 12, 13, 5, 19, 20, 21, 22, 23, 24, 25, 26, 27, 28, 29, 18, 31, 32, 33, 34, 35, 36, 37, 38, 39, 40, 41, 42, 43, 44, 45, 46, 47, 48, 49, 50, 51, 52, 53, 30, 54, 55, 56, 57, 58, 14, 15, 16, 17, 2, 59, 8] (fun k : Fin (l.length + 1) => [(8, (true, .int .i64 (k.1 : Nat))), (2, (true, .bsl 7617 0 (turn (l.take k.1)).length))])
    (fun k => hps [(7617, { base := 0, blks := [{ z := 1, els := (turn (l.take k.1)).map ri, ty := 3 }] })] noH) (fun k => l.length - k.1) ⟨0, by omega⟩ ?_ ?_ ?_
  · simp [okAll, okv, turn]
  · exact (by (try simp -dsimp only [hpush_noH, hpush_hps, hps_over]); refine hle_hps ?_; simp -dsimp [allK, turn]; repeat' (first | (refine And.intro ?_ ?_) | (refine sLe.same ?_ ?_ <;> (simp; done)) | (refine sLe.clear ?_ ?_ <;> (first | (simp; done) | (simp; omega))) | (refine sLe.drop 1 ?_ ?_ ?_ <;> (simp; done))))
  rintro ⟨k, hk⟩
  simp only
  by_cases hk1 : k < l.length
  · have hki : (k : Int) < l.length := by omega
    have wk : IntKind.wrap .i64 ((k : Int) + 1) = (k + 1 : Nat) := wrap_id (by omega) (by omega)
    have hT := turn_take l hk1
    have hTl := turn_len (l.take k)
    rw [List.length_take] at hTl
    generalize hn : l[k] = n at *
    generalize turn (l.take k) = T at *
    generalize hm : T.length = m at *
    have hb8 : (m + 1) * 8 ≤ 140737488355328 := by omega
    rcases Nat.lt_or_ge 0 m with hm0 | hm0
    case inr =>
      have hm0 : m = 0 := by omega
      subst hm0
      have hTn : T = [] := List.eq_nil_of_length_eq_zero hm
      subst hTn
      rw [show tpush [] n = [n] by rfl] at hT
      simp -dsimp [hki]
      repeat' (first | omega | (simp -dsimp [E76, ri, cellp, ints, hki, hk1, wk, hn, hl]) | (refine Also.intro ?_ fun _ => ?_) | (refine Hold.intro fun _ => ?_) | (refine And.intro ?_ ?_))
      refine ⟨⟨k + 1, by omega⟩, tle_chain rfl ?_, (by (try simp -dsimp only [hpush_noH, hpush_hps, hps_over]); refine hle_hps ?_; simp -dsimp [allK, hT, ri]; repeat' (first | (refine And.intro ?_ ?_) | (refine sLe.same ?_ ?_ <;> (simp; done)) | (refine sLe.clear ?_ ?_ <;> (first | (simp; done) | (simp; omega))) | (refine sLe.drop 1 ?_ ?_ ?_ <;> (simp; done)))), by simp only; omega⟩
      simp [okAll, okv, hT]
    have h1 : m - 1 < T.length := by omega
    have e1 : T[m - 1]? = some T[m - 1] := List.getElem?_eq_getElem h1
    have g1 : T.getD (m - 1) 0 = T[m - 1] := by simp [List.getD, e1]
    have w1 : IntKind.wrap .i64 ((m : Int) - 1) = (m - 1 : Nat) := by rw [wrap_id (by omega) (by omega)]; omega
    have i1 : (0 : Int) < m := by omega
    rw [tpush, hm, g1] at hT
    generalize hx : T[m - 1] = x at *
    by_cases c1 : x = n
    · rw [if_pos ⟨hm0, c1⟩] at hT
      subst c1
      simp -dsimp [hki]
      repeat' (first | omega | (simp -dsimp [E76, ri, cellp, ints, hki, hk1, wk, hn, hl, w1, e1, i1, h1, hx]) | (refine Also.intro ?_ fun _ => ?_) | (refine Hold.intro fun _ => ?_) | (refine And.intro ?_ ?_))
      refine ⟨⟨k + 1, by omega⟩, tle_chain rfl ?_, (by (try simp -dsimp only [hpush_noH, hpush_hps, hps_over]); refine hle_hps ?_; simp -dsimp [allK, hT, ri]; repeat' (first | (refine And.intro ?_ ?_) | (refine sLe.same ?_ ?_ <;> (simp; done)) | (refine sLe.clear ?_ ?_ <;> (first | (simp; done) | (simp; omega))) | (refine sLe.drop 1 ?_ ?_ ?_ <;> (simp; done)))), by simp only; omega⟩
      simp [okAll, okv, hT, hm]
    have c1' : (x = n) = False := eq_false c1
    rw [if_neg (fun h => c1 h.2)] at hT
    rcases Nat.lt_or_ge 1 m with hm1 | hm1
    case inr =>
      have hm1 : m = 1 := by omega
      subst hm1
      rw [if_neg (fun h => by omega)] at hT
      simp -dsimp [hki]
      repeat' (first | omega | (simp -dsimp [E76, ri, cellp, ints, hki, hk1, wk, hn, hl, w1, e1, i1, h1, hx, c1', hm]) | (refine Also.intro ?_ fun _ => ?_) | (refine Hold.intro fun _ => ?_) | (refine And.intro ?_ ?_))
      refine ⟨⟨k + 1, by omega⟩, tle_chain rfl ?_, (by (try simp -dsimp only [hpush_noH, hpush_hps, hps_over]); refine hle_hps ?_; simp -dsimp [allK, hT, ri]; repeat' (first | (refine And.intro ?_ ?_) | (refine sLe.same ?_ ?_ <;> (simp; done)) | (refine sLe.clear ?_ ?_ <;> (first | (simp; done) | (simp; omega))) | (refine sLe.drop 1 ?_ ?_ ?_ <;> (simp; done)))), by simp only; omega⟩
      simp [okAll, okv, hT, hm]
    have h2 : m - 2 < T.length := by omega
    have e2 : T[m - 2]? = some T[m - 2] := List.getElem?_eq_getElem h2
    have g2 : T.getD (m - 2) 0 = T[m - 2] := by simp [List.getD, e2]
    have w2 : IntKind.wrap .i64 ((m : Int) - 2) = (m - 2 : Nat) := by rw [wrap_id (by omega) (by omega)]; omega
    have i2 : (1 : Int) < m := by omega
    rw [g2] at hT
    generalize hy : T[m - 2] = y at *
    have hset : (T.map ri).set (m - 1) [V.int .i64 n] = (T.set (m - 1) n).map ri := by rw [List.map_set]; rfl
    have hsl : (T.set (m - 1) n).length = m := by rw [List.length_set, hm]
    by_cases c2 : decide (y < x) = decide (x < n)
    · rw [if_pos ⟨hm1, c2⟩] at hT
      generalize T.set (m - 1) n = T2 at *
      simp -dsimp [hki]
      repeat' (first | omega | (simp -dsimp [E76, ri, cellp, ints, hki, hk1, wk, hn, hl, w1, w2, e1, e2, i1, i2, h1, h2, hx, hy, c1', c2, hm, hset]) | (refine Also.intro ?_ fun _ => ?_) | (refine Hold.intro fun _ => ?_) | (refine And.intro ?_ ?_))
      refine ⟨⟨k + 1, by omega⟩, tle_chain rfl ?_, (by (try simp -dsimp only [hpush_noH, hpush_hps, hps_over]); refine hle_hps ?_; simp -dsimp [allK, hT, hset]; repeat' (first | (refine And.intro ?_ ?_) | (refine sLe.same ?_ ?_ <;> (simp; done)) | (refine sLe.clear ?_ ?_ <;> (first | (simp; done) | (simp; omega))) | (refine sLe.drop 1 ?_ ?_ ?_ <;> (simp; done)))), by simp only; omega⟩
      simp [okAll, okv, hT, hsl]
    · rw [if_neg (fun h => c2 h.2)] at hT
      have c2' : (decide (y < x) = decide (x < n)) = False := eq_false c2
      simp -dsimp [hki]
      repeat' (first | omega | (simp -dsimp [E76, ri, cellp, ints, hki, hk1, wk, hn, hl, w1, w2, e1, e2, i1, i2, h1, h2, hx, hy, c1', c2', hm]) | (refine Also.intro ?_ fun _ => ?_) | (refine Hold.intro fun _ => ?_) | (refine And.intro ?_ ?_))
      refine ⟨⟨k + 1, by omega⟩, tle_chain rfl ?_, (by (try simp -dsimp only [hpush_noH, hpush_hps, hps_over]); refine hle_hps ?_; simp -dsimp [allK, hT, ri]; repeat' (first | (refine And.intro ?_ ?_) | (refine sLe.same ?_ ?_ <;> (simp; done)) | (refine sLe.clear ?_ ?_ <;> (first | (simp; done) | (simp; omega))) | (refine sLe.drop 1 ?_ ?_ ?_ <;> (simp; done)))), by simp only; omega⟩
      simp [okAll, okv, hT, hm]
  have hke : k = l.length := by omega
  subst hke
  rw [List.take_length]
  simp -dsimp
  repeat' (first | omega | (simp -dsimp [E76, ri, cellp, ints, ints]) | (refine Also.intro ?_ fun _ => ?_) | (refine Hold.intro fun _ => ?_) | (refine And.intro ?_ ?_))
theorem ok76 : FnOK Tryd.prog 76 (.pure turnS) := pure_fn (E := E76) rfl LOK.nil (ok := []) (fn := Tryd.f76) (by kernel_rfl) (by kernel_rfl) (by kernel_rfl) (by kernel_rfl) rfl (fun _ _ => by simp) b76
end Go.Sx
end
section
/- Parts: slices.Delete. No conditions. -/
set_option linter.unusedSimpArgs false
set_option maxRecDepth 100000
set_option maxHeartbeats 1000000
namespace Go.Sx
open Go.Proofs

/-- Delete of ints, of an owned slice: the slice goes on as a new block. -/
def delS : HSpec where
  go args h := match args with
    | [.bsl s i n, .int .i64 a, .int .i64 b] => match hget h s i with
      | some B => ⟨B.fz = false ∧ B.z = 1 ∧ n = B.els.length ∧ 0 ≤ a ∧ a < b ∧ b < n ∧ n ≤ 1000000 ∧ B.ty = 3 ∧ s ≠ 999999999, .bsl 7832 (hnext h 7832) (n - (b.toNat - a.toNat)), hpush (hcut h s i) 7832 { B with els := B.els.take a.toNat ++ B.els.drop b.toNat }⟩
      | none => ⟨False, .top, h⟩
    | _ => ⟨False, .top, h⟩
theorem del_inv {args : List V} {h : Hp} (hc : (delS.go args h).c) : ∃ s i n B a b, args = [.bsl s i n, .int .i64 (a : Nat), .int .i64 (b : Nat)] ∧ hget h s i = some B ∧ B.fz = false ∧ B.z = 1 ∧ n = B.els.length ∧ a < b ∧ b < n ∧ n ≤ 1000000 ∧ B.ty = 3 ∧
    (delS.go args h).v = .bsl 7832 (hnext h 7832) (n - (b - a)) ∧ (delS.go args h).h = hpush (hcut h s i) 7832 { B with els := B.els.take a ++ B.els.drop b } := by
  match args, hc with
  | [.bsl s i n, .int .i64 a, .int .i64 b], hc =>
    cases hB : hget h s i with
    | none => simp [delS, hB] at hc
    | some B =>
      have hgo : delS.go [.bsl s i n, .int .i64 a, .int .i64 b] h = ⟨B.fz = false ∧ B.z = 1 ∧ n = B.els.length ∧ 0 ≤ a ∧ a < b ∧ b < n ∧ n ≤ 1000000 ∧ B.ty = 3 ∧ s ≠ 999999999, .bsl 7832 (hnext h 7832) (n - (b.toNat - a.toNat)), hpush (hcut h s i) 7832 { B with els := B.els.take a.toNat ++ B.els.drop b.toNat }⟩ := by simp only [delS, hB]
      rw [hgo] at hc ⊢
      obtain ⟨c1, c2, c3, c4, c5, c6, c7, c8, c9⟩ := hc
      exact ⟨s, i, n, B, a.toNat, b.toNat, by rw [Int.toNat_of_nonneg c4, Int.toNat_of_nonneg (by omega)], hB, c1, c2, c3, by omega, by omega, c7, c8, rfl, rfl⟩
theorem hcut_hset {h : Hp} {s i : Nat} {B : Blk} (hb : (h s).base ≤ i) : hcut (hset h s i B) s i = hcut h s i := by
  funext k
  unfold hcut hset
  by_cases hk : k = s
  · subst hk
    simp only [if_true]
    have : List.drop (i + 1 - (h k).base) ((h k).blks.set (i - (h k).base) B) = List.drop (i + 1 - (h k).base) (h k).blks := by
      rw [List.drop_set_of_lt (by omega)]
    rw [this]
  · simp only [hk, if_false]
noncomputable abbrev E78 : Env := { P := Tryd.prog, fn := tbl [], own := [], key := 7800, nt := 33, frz := [(7, [1000000 + 7832000])] }
theorem b78 : HeapBody E78 [] Tryd.f78 delS := by
  intro args h hc
  obtain ⟨s, i, n, B, a, b, rfl, hB, c1, c2, c3, c4, c5, c6, c7, hv, hh⟩ := del_inv hc
  rw [hv, hh]
  clear hv hh hc
  obtain ⟨z, els, ty, fz, cl⟩ := B
  simp only at c1 c2 c3 c7
  subst c1 c2 c3 c7
  simp only at hB ⊢
  have hne : ¬ els = [] := by intro e; rw [e] at c5; simp at c5
  have hs1 : ∀ B', hget (hset h s i B') s i = some B' := fun B' => hget_set_same hB
  have hcs : ∀ B', hcut (hset h s i B') s i = hcut h s i := fun B' => hcut_hset (hget_base hB)
  have hns : ∀ B' k, hnext (hset h s i B') k = hnext h k := fun B' k => hnext_set ..
  have e1 : ((a : Int) + (els.length - b : Nat)).toNat = a + (els.length - b) := by omega
  have e2 : List.take (els.length - b) (List.drop b els) = List.drop b els := List.take_of_length_le (by simp)
  have e3 : ((a : Int) = b) = False := eq_false (by omega)
  have e4 : a < els.length := by omega
  have hab : a + (els.length - b) < els.length := by omega
  have hmin : min a els.length = a := by omega
  have e5 : ∀ X, List.take (a + (els.length - b)) (List.take a els ++ (List.drop b els ++ X)) = List.take a els ++ List.drop b els := fun X => by
    rw [← List.append_assoc, List.take_left' (by simp; omega)]
  simp -dsimp [Tryd.f78, E78]
  repeat' (first | omega | (simp -dsimp [E78, ri, cellp, ints, hB, e5, hne, hs1, e1, e2, e3, e4, c4, c5, c6, hab, hcs, hns, hset_hset, hmin]) | (refine Also.intro ?_ fun _ => ?_) | (refine Hold.intro fun _ => ?_) | (refine And.intro ?_ ?_))
theorem ok78 : FnOK Tryd.prog 78 (.heap delS) := heap_fn (E := E78) rfl LOK.nil (ok := []) (fn := Tryd.f78) (by kernel_rfl) (by kernel_rfl) (by kernel_rfl) (by kernel_rfl) rfl (fun args h hc => by obtain ⟨_, _, _, _, _, _, rfl, _⟩ := del_inv hc; simp) b78
end Go.Sx
end
section
/- Parts: the cycles of a series, in plain Lean. No conditions. -/
set_option linter.unusedSimpArgs false
namespace Go.Sx

/-- What is counted of a pile, and what is left of it. -/
def red (pile : List Int) : List (Int × Int) × List Int :=
  if h : 3 ≤ pile.length then
    if dist (pile.getD (pile.length - 1) 0) (pile.getD (pile.length - 2) 0) < dist (pile.getD (pile.length - 2) 0) (pile.getD (pile.length - 3) 0) then ([], pile)
    else if pile.length = 3 then
      let r := red (pile.drop 1)
      ((dist (pile.getD (pile.length - 2) 0) (pile.getD (pile.length - 3) 0), 1) :: r.1, r.2)
    else
      let r := red (pile.take (pile.length - 3) ++ pile.drop (pile.length - 1))
      ((dist (pile.getD (pile.length - 2) 0) (pile.getD (pile.length - 3) 0), 2) :: r.1, r.2)
  else ([], pile)
termination_by pile.length
decreasing_by
  · simp; omega
  · simp; omega
def tailC (pile : List Int) : List (Int × Int) := (List.range (pile.length - 1)).map fun i => (dist (pile.getD (i + 1) 0) (pile.getD i 0), 1)
def cyc : List Int → List Int → List (Int × Int)
  | [], pile => tailC pile
  | p :: r, pile => (red (pile ++ [p])).1 ++ cyc r (red (pile ++ [p])).2
def cycles (l : List Int) : List (Int × Int) := cyc (turn l) []
theorem red_small {pile : List Int} (h : pile.length < 3) : red pile = ([], pile) := by
  rw [red, dif_neg (by omega)]
theorem red_stop {pile : List Int} (h : 3 ≤ pile.length) (h1 : dist (pile.getD (pile.length - 1) 0) (pile.getD (pile.length - 2) 0) < dist (pile.getD (pile.length - 2) 0) (pile.getD (pile.length - 3) 0)) : red pile = ([], pile) := by
  rw [red, dif_pos h, if_pos h1]
theorem red_half {pile : List Int} (h : pile.length = 3) (h1 : ¬ dist (pile.getD (pile.length - 1) 0) (pile.getD (pile.length - 2) 0) < dist (pile.getD (pile.length - 2) 0) (pile.getD (pile.length - 3) 0)) :
    red pile = ((dist (pile.getD (pile.length - 2) 0) (pile.getD (pile.length - 3) 0), 1) :: (red (pile.drop 1)).1, (red (pile.drop 1)).2) := by
  rw [red, dif_pos (by omega), if_neg h1, if_pos h]
theorem red_whole {pile : List Int} (h : 3 < pile.length) (h1 : ¬ dist (pile.getD (pile.length - 1) 0) (pile.getD (pile.length - 2) 0) < dist (pile.getD (pile.length - 2) 0) (pile.getD (pile.length - 3) 0)) :
    red pile = ((dist (pile.getD (pile.length - 2) 0) (pile.getD (pile.length - 3) 0), 2) :: (red (pile.take (pile.length - 3) ++ pile.drop (pile.length - 1))).1, (red (pile.take (pile.length - 3) ++ pile.drop (pile.length - 1))).2) := by
  rw [red, dif_pos (by omega), if_neg h1, if_neg (by omega)]
/-- A pile's loads are among those that came. -/
def Bd (l : List Int) : Prop := ∀ x ∈ l, -1000000000000 ≤ x ∧ x ≤ 1000000000000
theorem Bd.getD {l : List Int} (h : Bd l) (i : Nat) : -1000000000000 ≤ l.getD i 0 ∧ l.getD i 0 ≤ 1000000000000 := by
  simp only [List.getD]
  cases hk : l[i]? with
  | none => simp
  | some x => exact h x (List.mem_of_getElem? hk)
theorem red_bd : ∀ (n : Nat) (pile : List Int), pile.length = n → Bd pile → Bd (red pile).2 ∧ (red pile).2.length ≤ pile.length := by
  intro n
  induction n using Nat.strongRecOn with
  | _ n ih =>
    intro pile hn hb
    by_cases h : 3 ≤ pile.length
    case neg => rw [red_small (by omega)]; exact ⟨hb, Nat.le_refl _⟩
    by_cases h1 : dist (pile.getD (pile.length - 1) 0) (pile.getD (pile.length - 2) 0) < dist (pile.getD (pile.length - 2) 0) (pile.getD (pile.length - 3) 0)
    · rw [red_stop h h1]; exact ⟨hb, Nat.le_refl _⟩
    by_cases h3 : pile.length = 3
    · rw [red_half h3 h1]
      obtain ⟨k1, k2⟩ := ih (pile.drop 1).length (by simp; omega) (pile.drop 1) rfl (fun x hx => hb x (List.mem_of_mem_drop hx))
      exact ⟨k1, by simp only [List.length_drop] at k2 ⊢; omega⟩
    · rw [red_whole (by omega) h1]
      obtain ⟨k1, k2⟩ := ih (pile.take (pile.length - 3) ++ pile.drop (pile.length - 1)).length (by simp; omega) _ rfl (fun x hx => by
        rcases List.mem_append.1 hx with hx | hx
        · exact hb x (List.mem_of_mem_take hx)
        · exact hb x (List.mem_of_mem_drop hx))
      exact ⟨k1, by simp only [List.length_append, List.length_take, List.length_drop] at k2 ⊢; omega⟩
theorem tpush_bd {out : List Int} {n : Int} (h : Bd out) (hn : -1000000000000 ≤ n ∧ n ≤ 1000000000000) : Bd (tpush out n) := by
  unfold tpush
  split
  · exact h
  · split
    · intro x hx
      rcases List.mem_or_eq_of_mem_set hx with hx | rfl
      · exact h x hx
      · exact hn
    · intro x hx
      rcases List.mem_append.1 hx with hx | hx
      · exact h x hx
      · simp at hx; subst hx; exact hn
theorem turn_bd {l : List Int} (h : Bd l) : Bd (turn l) := by
  have : ∀ k, Bd (turn (l.take k)) := by
    intro k
    induction k with
    | zero => intro x hx; simp [turn] at hx
    | succ k ih =>
      by_cases hk : k < l.length
      · rw [turn_take l hk]; exact tpush_bd ih (h _ (List.getElem_mem hk))
      · rw [List.take_of_length_le (by omega)]
        rw [List.take_of_length_le (by omega)] at ih; exact ih
  have := this l.length
  rwa [List.take_length] at this
theorem dist_bd {a b : Int} (ha : -1000000000000 ≤ a ∧ a ≤ 1000000000000) (hb : -1000000000000 ≤ b ∧ b ≤ 1000000000000) : 0 ≤ dist a b ∧ dist a b ≤ 2000000000000 := by
  unfold dist; omega
theorem red_len : ∀ (n : Nat) (pile : List Int), pile.length = n → (red pile).1.length + (red pile).2.length ≤ pile.length := by
  intro n
  induction n using Nat.strongRecOn with
  | _ n ih =>
    intro pile hn
    by_cases h : 3 ≤ pile.length
    case neg => rw [red_small (by omega)]; simp
    by_cases h1 : dist (pile.getD (pile.length - 1) 0) (pile.getD (pile.length - 2) 0) < dist (pile.getD (pile.length - 2) 0) (pile.getD (pile.length - 3) 0)
    · rw [red_stop h h1]; simp
    by_cases h3 : pile.length = 3
    · rw [red_half h3 h1]
      have := ih (pile.drop 1).length (by simp; omega) (pile.drop 1) rfl
      simp only [List.length_drop, List.length_cons] at this ⊢; omega
    · rw [red_whole (by omega) h1]
      have := ih (pile.take (pile.length - 3) ++ pile.drop (pile.length - 1)).length (by simp; omega) _ rfl
      simp only [List.length_append, List.length_take, List.length_drop, List.length_cons] at this ⊢; omega
theorem cyc_len : ∀ (pts pile : List Int), (cyc pts pile).length ≤ pts.length + pile.length
  | [], pile => by simp [cyc, tailC]
  | p :: r, pile => by
    have h1 := red_len _ (pile ++ [p]) rfl
    have h2 := cyc_len r (red (pile ++ [p])).2
    simp only [cyc, List.length_append, List.length_cons, List.length_nil] at *
    omega
theorem cycles_len (l : List Int) : (cycles l).length ≤ l.length := by
  have h1 := cyc_len (turn l) []
  have h2 := turn_len l
  simp only [cycles, List.length_nil] at *
  omega
/-- A cycle as what is yielded. -/
def cycV (p : Int × Int) : List V := [.int .i64 p.1, .int .i64 p.2]
/-- The captured series. -/
def cntDec (caps : List V) (h : Hp) : Prop × List (List V) := match caps with
  | [.bptr s i n e j] => match hget h s i with
    | some B => ((s = 5201 ∧ n = 1 ∧ e = 0 ∧ j = 0) ∧ B.z = 1 ∧ ∃ l : List Int, B.els = [[ints l]] ∧ l.length ≤ 100000 ∧ Bd l, (cycles ((B.els.getD 0 []).getD 0 .top).toInts).map cycV)
    | none => (False, [])
  | _ => (False, [])
theorem cntDec_inv {caps : List V} {h : Hp} (hc : (cntDec caps h).1) : ∃ i B, ∃ L : List Int, caps = [.bptr 5201 i 1 0 0] ∧ hget h 5201 i = some B ∧ B.z = 1 ∧ B.els = [[ints L]] ∧ L.length ≤ 100000 ∧ Bd L ∧ (cntDec caps h).2 = (cycles L).map cycV := by
  match caps, hc with
  | [.bptr s i n e j], hc =>
    cases hB : hget h s i with
    | none => simp only [cntDec, hB] at hc
    | some B =>
      simp only [cntDec, hB] at hc
      obtain ⟨⟨rfl, rfl, rfl, rfl⟩, hz, L, hL, h6, h7⟩ := hc
      refine ⟨i, B, L, rfl, hB, hz, hL, h6, h7, ?_⟩
      simp only [cntDec, hB, hL]
      simp [ints]
end Go.Sx
end
