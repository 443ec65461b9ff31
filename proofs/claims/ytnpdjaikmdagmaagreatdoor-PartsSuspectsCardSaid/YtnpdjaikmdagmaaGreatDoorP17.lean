/- A part of a proof; no conditions. -/
import Derived.Test.YtnpdjaikmdagmaaGreatDoorP16
import Derived.Test.YtnpdjaikmdagmaaGreatDoorP13
set_option linter.unusedSimpArgs false
set_option linter.unusedVariables false
set_option linter.unusedSectionVars false
section
/- Parts: Check, Used, Where, Left, Lacks, Longest, Due. No conditions. -/
set_option linter.unusedSimpArgs false
set_option linter.unusedSectionVars false
set_option maxRecDepth 100000
set_option maxHeartbeats 2000000
namespace Go.Sx
open Go.Proofs
attribute [local irreducible] HLe
attribute [local simp] hps_app

theorem opE_inv {r : Reg} {l : List Wk} (h : opE r l = 0) : r.valid = true ∧ l.length ≤ 200 ∧ (∀ j, j < l.length → okAt r l j = true) ∧ (opH r l).Inv r l.length := by
  unfold opE at h
  split at h
  · rename_i h1
    split at h
    · rename_i h2
      split at h
      · rename_i h3
        have : ∀ j, j < l.length → okAt r l j = true := by
          intro j hj
          have hz := idxZ_any (List.range l.length) fun j => !okAt r l j
          have e : decide (0 ≤ idxZ (List.range l.length) fun j => !okAt r l j) = false := by
            have : idxZ (List.range l.length) (fun j => !okAt r l j) = badAt r l := rfl
            rw [this]; simp; omega
          rw [e] at hz
          have := List.any_eq_false.1 hz.symm j (by simpa using hj)
          simpa using this
        exact ⟨h1, h2, this, stT_inv h1 _ (by omega) this⟩
      · omega
    · omega
  · omega
theorem opE_ok {r : Reg} {l : List Wk} (h : opE r l = 0) : (opH r l).Ok := (opE_inv h).2.2.2.ok (by have := (opE_inv h).2.1; omega)
noncomputable abbrev checkFS : PSpec := mkP rlE RL.Fine fun d => .tup [.int .i64 (opA d.r d.l), .int .i64 (opE d.r d.l)]
@[simp] def ptOE (p : PS) : List V := [ptI p]
theorem ptOE_inj (a b : PS) (h : ptOE a = ptOE b) : a = b := ptI_inj _ _ (by simpa using h)
theorem ptOE_dec (p : PS) : decC ptOE [.ip 8 [[.int .i64 p.kind, .int .i64 p.hours, .int .i64 p.cycles, .bool p.known, .int .i64 p.a, .int .i64 p.b, .sl 1 (p.since.map ri), .sl 1 (p.chk.map rb)]] 0 0] = p := decC_eq ptOE_inj p
noncomputable abbrev used1S : PSpec := mkP ptOE (fun _ => True) fun p => .agg [.int .i64 p.hours, .int .i64 p.cycles]
noncomputable abbrev E29 : Env := { P := Tryz.prog, fn := tbl [], own := [], key := 2900, nt := 14 }
theorem b29 : PureBody E29 [] Tryz.f29 used1S := by
  refine pb ?_
  rintro p _
  simp -dsimp [Tryz.f29, E29, ptI, PS.irow]
  repeat' (first | omega | (simp -dsimp [E29, ri, cellp, ints, ptI, PS.irow]) | (refine Also.intro ?_ fun _ => ?_) | (refine Hold.intro fun _ => ?_) | (refine And.intro ?_ ?_))
theorem ok29 : FnOK Tryz.prog 29 (.pure used1S) := pure_fn (E := E29) rfl LOK.nil (ok := []) (fn := Tryz.f29) (by kernel_rfl) (by kernel_rfl) (by kernel_rfl) (by kernel_rfl) rfl (fun _ _ => by simp) b29
noncomputable abbrev where1S : PSpec := mkP ptOE (fun _ => True) fun p => .agg [.int .i64 p.a, .int .i64 p.b]
noncomputable abbrev E28 : Env := { P := Tryz.prog, fn := tbl [], own := [], key := 2800, nt := 7 }
theorem b28 : PureBody E28 [] Tryz.f28 where1S := by
  refine pb ?_
  rintro p _
  simp -dsimp [Tryz.f28, E28, ptI, PS.irow]
  repeat' (first | omega | (simp -dsimp [E28, ri, cellp, ints, ptI, PS.irow]) | (refine Also.intro ?_ fun _ => ?_) | (refine Hold.intro fun _ => ?_) | (refine And.intro ?_ ?_))
theorem ok28 : FnOK Tryz.prog 28 (.pure where1S) := pure_fn (E := E28) rfl LOK.nil (ok := []) (fn := Tryz.f28) (by kernel_rfl) (by kernel_rfl) (by kernel_rfl) (by kernel_rfl) rfl (fun _ _ => by simp) b28
/-- The rows of the first k. -/
def tkV {α : Type} (f : α → List V) (l : List α) (k : Nat) : List (List V) := (l.take k).map f
@[simp] theorem tkV_zero {α : Type} (f : α → List V) (l : List α) : tkV f l 0 = [] := rfl
theorem tkV_succ {α : Type} (f : α → List V) {l : List α} {k : Nat} {x : α} (h : l[k]? = some x) : tkV f l (k + 1) = tkV f l k ++ [f x] := by
  simp [tkV, List.take_add_one, h]
theorem tkV_len {α : Type} (f : α → List V) {l : List α} {k : Nat} (h : k ≤ l.length) : (tkV f l k).length = k := by simp [tkV]; omega
theorem tkV_all {α : Type} (f : α → List V) (l : List α) : tkV f l l.length = l.map f := by simp [tkV]
structure EaD where
  r : Reg
  l : List Wk
  b : Bool
  deriving Inhabited
@[simp] def eaE (d : EaD) : List V := [.agg d.r.row, .sl 4 (d.l.map Wk.row), .fn (if d.b then 29 else 28) []]
theorem eaE_inj (x y : EaD) (h : eaE x = eaE y) : x = y := by
  obtain ⟨r, l, b⟩ := x; obtain ⟨r', l', b'⟩ := y
  simp only [eaE, List.cons.injEq, V.agg.injEq, V.sl.injEq, true_and, and_true] at h
  obtain ⟨h1, h2, h3⟩ := h
  rw [Reg.row_inj _ _ h1, map_inj Wk.row_inj h2]
  cases b <;> cases b' <;> simp at h3 ⊢
theorem eaE_dec1 (r : Reg) (l : List Wk) : decC eaE [.agg [.sl 3 (r.kinds.map Kd.row), .sl 4 (r.parts.map Pt.row), .int .i64 r.machines, .sl 2 (r.orders.map Od.row)], .sl 4 (l.map Wk.row), .fn 29 []] = ⟨r, l, true⟩ := decC_eq eaE_inj ⟨r, l, true⟩
theorem eaE_dec0 (r : Reg) (l : List Wk) : decC eaE [.agg [.sl 3 (r.kinds.map Kd.row), .sl 4 (r.parts.map Pt.row), .int .i64 r.machines, .sl 2 (r.orders.map Od.row)], .sl 4 (l.map Wk.row), .fn 28 []] = ⟨r, l, false⟩ := decC_eq eaE_inj ⟨r, l, false⟩
def eaP (b : Bool) (p : PS) : Int × Int := if b then (p.hours, p.cycles) else (p.a, p.b)
def eaR (r : Reg) (l : List Wk) (b : Bool) : List (Int × Int) := if opE r l = 0 then (opH r l).ps.map (eaP b) else []
noncomputable abbrev eachS : PSpec := mkP eaE (fun d => RL.Fine ⟨d.r, d.l⟩) fun d => .tup [prs (eaR d.r d.l d.b), .int .i64 (opE d.r d.l)]
noncomputable abbrev E27 : Env := { P := Tryz.prog, fn := tbl [(18, .pure openS), (29, .pure used1S), (28, .pure where1S)], own := [], key := 2700, nt := 39 }
theorem b27 : PureBody E27 [] Tryz.f27 eachS := by
  refine pb ?_
  rintro ⟨r, l, b⟩ hfn
  by_cases hE : opE r l = 0
  case neg =>
    have hR : eaR r l b = [] := by simp [eaR, hE]
    cases b <;> simp -dsimp [Tryz.f27, E27, Reg.row] <;> repeat' (first | omega | (simp -dsimp [E27, ri, cellp, ints, rlE_dec', Reg.row, hfn, hE, hR, prs]) | (refine Also.intro ?_ fun _ => ?_) | (refine Hold.intro fun _ => ?_) | (refine And.intro ?_ ?_))
  have hR : eaR r l b = (opH r l).ps.map (eaP b) := by simp [eaR, hE]
  have hI := (opE_inv hE).2.2.2
  have hlen : (opH r l).ps.length ≤ 1000 := (opE_ok hE).ps
  rw [hR]
  clear hR
  generalize hs : opH r l = s at *
  have hips : s.i.ps = s.ps := rfl
  cases b <;> simp -dsimp [Tryz.f27, E27, Reg.row] <;> repeat' (first | omega | (simp -dsimp [E27, ri, cellp, ints, rlE_dec', Reg.row, hfn, hE, hs, HI.v, hips]) | (refine Also.intro ?_ fun _ => ?_) | (refine Hold.intro fun _ => ?_) | (refine And.intro ?_ ?_))
  · refine awp_loop_g [(6, 2736, 2, 41)] rfl (by simp) [28, 29, 30, 11, 31, 32, 33, 34, 35, 36, 6, 37, 27] (fun k : Fin (s.ps.length + 1) => [(27, (true, .int .i64 (k.1 : Nat))), (6, (true, .bsl 2736 0 k.1))])
      (fun k => hps [(2736, { base := 0, blks := [{ z := 2, els := tkV (fun p => cycV (eaP false p)) s.ps k.1, ty := 41 }] }), (2703, { base := 1, blks := [] })] noH) (fun k => s.ps.length - k.1) ⟨0, by omega⟩ ?_ ?_ ?_
    · simp [okAll, okv]
    · exact (by (try simp -dsimp only [hpush_noH, hpush_hps, hps_over]); refine hle_hps ?_; simp -dsimp [allK, ]; repeat' (first | (refine And.intro ?_ ?_) | (refine sLe.same ?_ ?_ <;> (simp; done)) | (refine sLe.clear ?_ ?_ <;> (first | (simp; done) | (simp; omega))) | (refine sLe.drop 1 ?_ ?_ ?_ <;> (simp; done))))
    rintro ⟨k, hk⟩
    simp only
    by_cases hk1 : k < s.ps.length
    · have hki : (k : Int) < s.ps.length := by omega
      have wk : IntKind.wrap .i64 ((k : Int) + 1) = (k + 1 : Nat) := wrap_id (by omega) (by omega)
      obtain ⟨p, hp, hp'⟩ := get_ex hk1
      have hpt := ptsI_ne (ps := s.ps) (by omega)
      have hT := tkV_succ (fun p => cycV (eaP false p)) hp
      have hTl := tkV_len (fun p => cycV (eaP false p)) (l := s.ps) (k := k) (by omega)
      have hfp : cycV (eaP false p) = [.int .i64 p.a, .int .i64 p.b] := rfl
      simp only [hfp] at hT
      generalize tkV (fun p => cycV (eaP false p)) s.ps k = T at *
      have hb8 : (k + 1) * 16 ≤ 140737488355328 := by omega
      simp -dsimp [hki, hpt]
      repeat' (first | omega | (simp -dsimp [E27, ri, cellp, ints, hki, hk1, hpt, hp, hp', ptI, PS.irow, ptOE_dec, wk, hTl, hb8]) | (refine Also.intro ?_ fun _ => ?_) | (refine Hold.intro fun _ => ?_) | (refine And.intro ?_ ?_))
      refine ⟨⟨k + 1, by omega⟩, tle_chain rfl ?_, (by (try simp -dsimp only [hpush_noH, hpush_hps, hps_over]); refine hle_hps ?_; simp -dsimp [allK, hT]; repeat' (first | (refine And.intro ?_ ?_) | (refine sLe.same ?_ ?_ <;> (simp; done)) | (refine sLe.clear ?_ ?_ <;> (first | (simp; done) | (simp; omega))) | (refine sLe.drop 1 ?_ ?_ ?_ <;> (simp; done)))), by simp only; omega⟩
      simp [okAll, okv]
    · have hkn : ¬ (k : Int) < s.ps.length := by omega
      have hke : k = s.ps.length := by omega
      subst hke
      simp -dsimp [hkn]
      repeat' (first | omega | (simp -dsimp [E27, ri, cellp, ints, hkn, prs, tkV_all]) | (refine Also.intro ?_ fun _ => ?_) | (refine Hold.intro fun _ => ?_) | (refine And.intro ?_ ?_))
  · refine awp_loop_g [(6, 2736, 2, 41)] rfl (by simp) [28, 29, 30, 11, 31, 32, 33, 34, 35, 36, 6, 37, 27] (fun k : Fin (s.ps.length + 1) => [(27, (true, .int .i64 (k.1 : Nat))), (6, (true, .bsl 2736 0 k.1))])
      (fun k => hps [(2736, { base := 0, blks := [{ z := 2, els := tkV (fun p => cycV (eaP true p)) s.ps k.1, ty := 41 }] }), (2703, { base := 1, blks := [] })] noH) (fun k => s.ps.length - k.1) ⟨0, by omega⟩ ?_ ?_ ?_
    · simp [okAll, okv]
    · exact (by (try simp -dsimp only [hpush_noH, hpush_hps, hps_over]); refine hle_hps ?_; simp -dsimp [allK, ]; repeat' (first | (refine And.intro ?_ ?_) | (refine sLe.same ?_ ?_ <;> (simp; done)) | (refine sLe.clear ?_ ?_ <;> (first | (simp; done) | (simp; omega))) | (refine sLe.drop 1 ?_ ?_ ?_ <;> (simp; done))))
    rintro ⟨k, hk⟩
    simp only
    by_cases hk1 : k < s.ps.length
    · have hki : (k : Int) < s.ps.length := by omega
      have wk : IntKind.wrap .i64 ((k : Int) + 1) = (k + 1 : Nat) := wrap_id (by omega) (by omega)
      obtain ⟨p, hp, hp'⟩ := get_ex hk1
      have hpt := ptsI_ne (ps := s.ps) (by omega)
      have hT := tkV_succ (fun p => cycV (eaP true p)) hp
      have hTl := tkV_len (fun p => cycV (eaP true p)) (l := s.ps) (k := k) (by omega)
      have hfp : cycV (eaP true p) = [.int .i64 p.hours, .int .i64 p.cycles] := rfl
      simp only [hfp] at hT
      generalize tkV (fun p => cycV (eaP true p)) s.ps k = T at *
      have hb8 : (k + 1) * 16 ≤ 140737488355328 := by omega
      simp -dsimp [hki, hpt]
      repeat' (first | omega | (simp -dsimp [E27, ri, cellp, ints, hki, hk1, hpt, hp, hp', ptI, PS.irow, ptOE_dec, wk, hTl, hb8]) | (refine Also.intro ?_ fun _ => ?_) | (refine Hold.intro fun _ => ?_) | (refine And.intro ?_ ?_))
      refine ⟨⟨k + 1, by omega⟩, tle_chain rfl ?_, (by (try simp -dsimp only [hpush_noH, hpush_hps, hps_over]); refine hle_hps ?_; simp -dsimp [allK, hT]; repeat' (first | (refine And.intro ?_ ?_) | (refine sLe.same ?_ ?_ <;> (simp; done)) | (refine sLe.clear ?_ ?_ <;> (first | (simp; done) | (simp; omega))) | (refine sLe.drop 1 ?_ ?_ ?_ <;> (simp; done)))), by simp only; omega⟩
      simp [okAll, okv]
    · have hkn : ¬ (k : Int) < s.ps.length := by omega
      have hke : k = s.ps.length := by omega
      subst hke
      simp -dsimp [hkn]
      repeat' (first | omega | (simp -dsimp [E27, ri, cellp, ints, hkn, prs, tkV_all]) | (refine Also.intro ?_ fun _ => ?_) | (refine Hold.intro fun _ => ?_) | (refine And.intro ?_ ?_))
theorem ok27 : FnOK Tryz.prog 27 (.pure eachS) := pure_fn (E := E27) rfl (.cons ok18 (.cons ok29 (.cons ok28 .nil))) (ok := []) (fn := Tryz.f27) (by kernel_rfl) (by kernel_rfl) (by kernel_rfl) (by kernel_rfl) rfl (fun _ _ => by simp) b27
noncomputable abbrev usedS : PSpec := mkP rlE RL.Fine fun d => .tup [prs (eaR d.r d.l true), .int .i64 (opE d.r d.l)]
noncomputable abbrev E9 : Env := { P := Tryz.prog, fn := tbl [(27, .pure eachS), (29, .pure used1S)], own := [], key := 900, nt := 11 }
theorem b9 : PureBody E9 [] Tryz.f9 usedS := by
  refine pb ?_
  rintro ⟨r, l⟩ hfn
  simp -dsimp [Tryz.f9, E9, Reg.row]
  repeat' (first | omega | (simp -dsimp [E9, ri, cellp, ints, eaE_dec1, Reg.row, hfn, prs]) | (refine Also.intro ?_ fun _ => ?_) | (refine Hold.intro fun _ => ?_) | (refine And.intro ?_ ?_))
theorem ok9 : FnOK Tryz.prog 9 (.pure usedS) := pure_fn (E := E9) rfl (.cons ok27 (.cons ok29 .nil)) (ok := []) (fn := Tryz.f9) (by kernel_rfl) (by kernel_rfl) (by kernel_rfl) (by kernel_rfl) rfl (fun _ _ => by simp) b9
noncomputable abbrev whereS : PSpec := mkP rlE RL.Fine fun d => .tup [prs (eaR d.r d.l false), .int .i64 (opE d.r d.l)]
noncomputable abbrev E8 : Env := { P := Tryz.prog, fn := tbl [(27, .pure eachS), (28, .pure where1S)], own := [], key := 800, nt := 11 }
theorem b8 : PureBody E8 [] Tryz.f8 whereS := by
  refine pb ?_
  rintro ⟨r, l⟩ hfn
  simp -dsimp [Tryz.f8, E8, Reg.row]
  repeat' (first | omega | (simp -dsimp [E8, ri, cellp, ints, eaE_dec0, Reg.row, hfn, prs]) | (refine Also.intro ?_ fun _ => ?_) | (refine Hold.intro fun _ => ?_) | (refine And.intro ?_ ?_))
theorem ok8 : FnOK Tryz.prog 8 (.pure whereS) := pure_fn (E := E8) rfl (.cons ok27 (.cons ok28 .nil)) (ok := []) (fn := Tryz.f8) (by kernel_rfl) (by kernel_rfl) (by kernel_rfl) (by kernel_rfl) rfl (fun _ _ => by simp) b8
end Go.Sx
end
section
/- Parts: Left, Lacks, Longest, Due. No conditions. -/
set_option linter.unusedSimpArgs false
set_option linter.unusedSectionVars false
set_option maxRecDepth 100000
set_option maxHeartbeats 2000000
namespace Go.Sx
open Go.Proofs
attribute [local irreducible] HLe
attribute [local simp] hps_app

structure RLN where
  r : Reg
  l : List Wk
  n : Int
  deriving Inhabited
@[simp] def rnE (d : RLN) : List V := [.agg d.r.row, .sl 4 (d.l.map Wk.row), .int .i64 d.n]
theorem rnE_inj (a b : RLN) (h : rnE a = rnE b) : a = b := by
  obtain ⟨r, l, n⟩ := a; obtain ⟨r', l', n'⟩ := b
  simp only [rnE, List.cons.injEq, V.agg.injEq, V.sl.injEq, V.int.injEq, true_and, and_true] at h
  rw [Reg.row_inj _ _ h.1, map_inj Wk.row_inj h.2.1, h.2.2]
theorem rnE_dec' (r : Reg) (l : List Wk) (n : Int) : decC rnE [.agg [.sl 3 (r.kinds.map Kd.row), .sl 4 (r.parts.map Pt.row), .int .i64 r.machines, .sl 2 (r.orders.map Od.row)], .sl 4 (l.map Wk.row), .int .i64 n] = ⟨r, l, n⟩ := decC_eq rnE_inj ⟨r, l, n⟩
def RLN.Fine (d : RLN) : Prop := RL.Fine ⟨d.r, d.l⟩
def max0 (x : Int) : Int := if x < 0 then 0 else x
structure LR where
  h : Int
  c : Int
  e : Int
def leftF (r : Reg) (l : List Wk) (n : Int) : LR :=
  if opE r l = 0 then (if (opH r l).i.part n = true then ⟨max0 ((opH r l).i.leftT ((opH r l).ps.getD n.toNat default)), max0 ((opH r l).i.leftC ((opH r l).ps.getD n.toNat default)), 0⟩ else ⟨0, 0, 1⟩) else ⟨0, 0, opE r l⟩
noncomputable abbrev leftFS : PSpec := mkP rnE RLN.Fine fun d => .tup [.int .i64 (leftF d.r d.l d.n).h, .int .i64 (leftF d.r d.l d.n).c, .int .i64 (leftF d.r d.l d.n).e]
def lacksF (r : Reg) (l : List Wk) (m : Int) : List (Int × Int) := if opE r l = 0 then (if (opH r l).i.machine m = true then (opH r l).i.lacks m else []) else []
def lacksE (r : Reg) (l : List Wk) (m : Int) : Int := if opE r l = 0 then (if (opH r l).i.machine m = true then 0 else 1) else opE r l
noncomputable abbrev lacksFS : PSpec := mkP rnE RLN.Fine fun d => .tup [prs (lacksF d.r d.l d.n), .int .i64 (lacksE d.r d.l d.n)]
structure RLM where
  r : Reg
  l : List Wk
  m : Int
  c : Int
  deriving Inhabited
@[simp] def rmE (d : RLM) : List V := [.agg d.r.row, .sl 4 (d.l.map Wk.row), .int .i64 d.m, .int .i64 d.c]
theorem rmE_inj (a b : RLM) (h : rmE a = rmE b) : a = b := by
  obtain ⟨r, l, m, c⟩ := a; obtain ⟨r', l', m', c'⟩ := b
  simp only [rmE, List.cons.injEq, V.agg.injEq, V.sl.injEq, V.int.injEq, true_and, and_true] at h
  rw [Reg.row_inj _ _ h.1, map_inj Wk.row_inj h.2.1, h.2.2.1, h.2.2.2]
theorem rmE_dec' (r : Reg) (l : List Wk) (m c : Int) : decC rmE [.agg [.sl 3 (r.kinds.map Kd.row), .sl 4 (r.parts.map Pt.row), .int .i64 r.machines, .sl 2 (r.orders.map Od.row)], .sl 4 (l.map Wk.row), .int .i64 m, .int .i64 c] = ⟨r, l, m, c⟩ := decC_eq rmE_inj ⟨r, l, m, c⟩
def RLM.Fine (d : RLM) : Prop := RL.Fine ⟨d.r, d.l⟩
def longE (r : Reg) (l : List Wk) (m c : Int) : Int := if opE r l = 0 then (if ((opH r l).i.machine m && withinB c 0 100) = true then (if (opH r l).i.longest m c < 0 then 3 else 0) else 1) else opE r l
def longF (r : Reg) (l : List Wk) (m c : Int) : Int := if longE r l m c = 0 then (opH r l).i.longest m c else 0
noncomputable abbrev longFS : PSpec := mkP rmE RLM.Fine fun d => .tup [.int .i64 (longF d.r d.l d.m d.c), .int .i64 (longE d.r d.l d.m d.c)]
noncomputable abbrev E33 : Env := { P := Tryz.prog, fn := tbl [(18, .pure openS), (21, .pure machineS), (20, .pure withinS), (62, .pure longestS)], own := [], key := 3300, nt := 40 }
theorem b33 : PureBody E33 [] Tryz.f33 longFS := by
  refine pb ?_
  rintro ⟨r, l, m, c⟩ hfn
  have hfn : RL.Fine ⟨r, l⟩ := hfn
  by_cases hE : opE r l = 0
  case neg =>
    have hR : longE r l m c = opE r l := by simp [longE, hE]
    have hR2 : longF r l m c = 0 := by simp [longF, hR, hE]
    simp -dsimp [Tryz.f33, E33, Reg.row]
    repeat' (first | omega | (simp -dsimp [E33, ri, cellp, ints, rlE_dec', Reg.row, hfn, hE, hR, hR2]) | (refine Also.intro ?_ fun _ => ?_) | (refine Hold.intro fun _ => ?_) | (refine And.intro ?_ ?_))
  have hsm := (opE_ok hE).small
  have hfit : ∀ p ∈ (opH r l).i.ps, (opH r l).i.Fit p := (opE_ok hE).fit
  cases hp : (opH r l).i.machine m
  · have hR : longE r l m c = 1 := by simp [longE, hE, hp]
    have hR2 : longF r l m c = 0 := by simp [longF, hR]
    generalize hs : opH r l = s at *
    simp -dsimp [Tryz.f33, E33, Reg.row]
    repeat' (first | omega | (simp -dsimp [E33, ri, cellp, ints, rlE_dec', Reg.row, hfn, hE, hs, HI.v, hiE_dec', hp, hR, hR2]) | (refine Also.intro ?_ fun _ => ?_) | (refine Hold.intro fun _ => ?_) | (refine And.intro ?_ ?_))
  cases hq : withinB c 0 100
  · have hR : longE r l m c = 1 := by simp [longE, hE, hp, hq]
    have hR2 : longF r l m c = 0 := by simp [longF, hR]
    generalize hs : opH r l = s at *
    simp -dsimp [Tryz.f33, E33, Reg.row]
    repeat' (first | omega | (simp -dsimp [E33, ri, cellp, ints, rlE_dec', Reg.row, hfn, hE, hs, HI.v, hiE_dec', hp, hq, hR, hR2]) | (refine Also.intro ?_ fun _ => ?_) | (refine Hold.intro fun _ => ?_) | (refine And.intro ?_ ?_))
  by_cases hn : (opH r l).i.longest m c < 0
  · have hR : longE r l m c = 3 := by simp [longE, hE, hp, hq, hn]
    have hR2 : longF r l m c = 0 := by simp [longF, hR]
    generalize hs : opH r l = s at *
    simp -dsimp [Tryz.f33, E33, Reg.row]
    repeat' (first | omega | (simp -dsimp [E33, ri, cellp, ints, rlE_dec', Reg.row, hfn, hE, hs, HI.v, hiE_dec', hmE_dec', hsm, hfit, hp, hq, hn, hR, hR2]) | (refine Also.intro ?_ fun _ => ?_) | (refine Hold.intro fun _ => ?_) | (refine And.intro ?_ ?_))
  · have hR : longE r l m c = 0 := by simp [longE, hE, hp, hq, hn]
    have hR2 : longF r l m c = (opH r l).i.longest m c := by simp [longF, hR]
    generalize hs : opH r l = s at *
    simp -dsimp [Tryz.f33, E33, Reg.row]
    repeat' (first | omega | (simp -dsimp [E33, ri, cellp, ints, rlE_dec', Reg.row, hfn, hE, hs, HI.v, hiE_dec', hmE_dec', hsm, hfit, hp, hq, hn, hR, hR2]) | (refine Also.intro ?_ fun _ => ?_) | (refine Hold.intro fun _ => ?_) | (refine And.intro ?_ ?_))
theorem ok33 : FnOK Tryz.prog 33 (.pure longFS) := pure_fn (E := E33) rfl (.cons ok18 (.cons ok21 (.cons ok20 (.cons ok62 .nil)))) (ok := []) (fn := Tryz.f33) (by kernel_rfl) (by kernel_rfl) (by kernel_rfl) (by kernel_rfl) rfl (fun _ _ => by simp) b33
end Go.Sx
end
section
/- Parts: the look at the examples. No conditions. -/
set_option linter.unusedSimpArgs false
set_option linter.unusedSectionVars false
set_option maxRecDepth 100000
set_option maxHeartbeats 2000000
namespace Go.Sx
open Go.Proofs
attribute [local irreducible] HLe
attribute [local simp] hps_app

theorem prs_inj {a b : List (Int × Int)} (h : prs a = prs b) : a = b := by
  simp only [prs, V.sl.injEq, true_and] at h; exact cycV_inj h
theorem ints_inj {a b : List Int} (h : ints a = ints b) : a = b := by
  simp only [ints, V.sl.injEq, true_and] at h; exact map_ri_inj h
theorem toPrs_rows (l : List (Int × Int)) : (V.sl 2 (l.map cycV)).toPrs = l := toPrs_prs l
def exR : Reg := { kinds := [⟨100, 50, 1⟩, ⟨1000, 1000, 2⟩], parts := [⟨0, 90, 10, true⟩, ⟨0, 0, 0, true⟩, ⟨1, 0, 0, true⟩, ⟨1, 0, 0, true⟩], machines := 1, orders := [⟨1, 5⟩] }
def exL : List Wk := [⟨2, 0, 0, 0⟩, ⟨2, 2, 0, 0⟩, ⟨2, 3, 0, 1⟩, ⟨1, 0, 4, 3⟩]
theorem ex_e : longE exR exL 0 2 = 0 := by decide +kernel
theorem ex_f : longF exR exL 0 2 = 6 := by decide +kernel
noncomputable abbrev exS : PSpec := mkP (D := Unit) (fun _ => []) (fun _ => True) fun _ => .tup [.agg [.sl 3 (exR.kinds.map Kd.row), .sl 4 (exR.parts.map Pt.row), .int .i64 exR.machines, .sl 2 (exR.orders.map Od.row)], .sl 4 (exL.map Wk.row)]
noncomputable abbrev E32 : Env := { P := Tryz.prog, fn := tbl [], own := [], key := 3200, nt := 20 }
theorem b32 : PureBody E32 [] Tryz.f32 exS := by
  refine pb ?_
  rintro _ _
  simp -dsimp [Tryz.f32, E32]
  repeat' (first | omega | (simp -dsimp [E32, ri, cellp, ints, exR, exL, Kd.row, Pt.row, Od.row, Wk.row]) | (refine Also.intro ?_ fun _ => ?_) | (refine Hold.intro fun _ => ?_) | (refine And.intro ?_ ?_))
theorem ok32 : FnOK Tryz.prog 32 (.pure exS) := pure_fn (E := E32) rfl LOK.nil (ok := []) (fn := Tryz.f32) (by kernel_rfl) (by kernel_rfl) (by kernel_rfl) (by kernel_rfl) rfl (fun _ _ => by simp) b32
def exC : List Int := [0, 5, 2, 4, 1, 6, 0]
theorem exC_e : serE exC = 0 := by decide +kernel
theorem exC_c : cycles exC = [(2, 2), (4, 2), (6, 1), (6, 1)] := by decide +kernel
noncomputable abbrev worksS : PSpec := mkP (D := Unit) (fun _ => []) (fun _ => True) fun _ => .bool true
noncomputable abbrev E12 : Env := { P := Tryz.prog, fn := tbl [(32, .pure exS), (33, .pure longFS), (34, .pure CyclesS), (35, .pure samePS)], own := [], key := 1200, nt := 41 }
theorem b12 : PureBody E12 [] Tryz.f12 worksS := by
  refine pb ?_
  rintro _ _
  have f1 : RLM.Fine ⟨exR, exL, 0, 2⟩ := by refine ⟨?_, ?_, ?_, ?_⟩ <;> decide +kernel
  have e1 := ex_e
  have e2 := ex_f
  have e3 := exC_e
  have e4 := exC_c
  simp only [exC] at e3 e4
  simp -dsimp [Tryz.f12, E12]
  repeat' (first | omega | (simp -dsimp [E12, ri, cellp, ints, rmE_dec', f1, e1, e2, e3, e4, V.toInts, V.rows, rowInt, V.toPrs, cycV, cycOf, V.toInt, prs]) | (refine Also.intro ?_ fun _ => ?_) | (refine Hold.intro fun _ => ?_) | (refine And.intro ?_ ?_))
theorem ok12 : FnOK Tryz.prog 12 (.pure worksS) := pure_fn (E := E12) rfl (.cons ok32 (.cons ok33 (.cons ok34 (.cons ok35 .nil)))) (ok := []) (fn := Tryz.f12) (by kernel_rfl) (by kernel_rfl) (by kernel_rfl) (by kernel_rfl) rfl (fun _ _ => by simp) b12
end Go.Sx
end
section
/- Parts: the reference's state. No conditions. -/
set_option linter.unusedSimpArgs false
set_option linter.unusedSectionVars false
namespace Go.Sx

structure RS where
  used : List (Int × Int)
  whr : List (Int × Int)
  iss : List Bool
  since : List (List Int)
  done : List (List Bool)
  deriving Inhabited
def bls (l : List Bool) : V := .sl 1 (l.map rb)
def snV (l : List (List Int)) : V := if l = [] then .nil else .sl 1 (l.map fun x => [ints x])
def dnV (l : List (List Bool)) : V := if l = [] then .nil else .sl 1 (l.map fun x => [bls x])
def RS.row (t : RS) : List V := [.sl 2 (t.used.map cycV), .sl 2 (t.whr.map cycV), .sl 1 (t.iss.map rb), snV t.since, dnV t.done]
theorem ints_inj1 (a b : List Int) (h : [ints a] = [ints b]) : a = b := ints_inj (by simpa using h)
theorem bls_inj1 (a b : List Bool) (h : [bls a] = [bls b]) : a = b := by
  simp only [bls, List.cons.injEq, V.sl.injEq, true_and, and_true] at h
  exact map_inj rb_inj h
theorem snV_inj {a b : List (List Int)} (h : snV a = snV b) : a = b := by
  unfold snV at h
  split at h <;> split at h
  · rename_i h1 h2; rw [h1, h2]
  · cases h
  · cases h
  · simp only [V.sl.injEq, true_and] at h; exact map_inj ints_inj1 h
theorem dnV_inj {a b : List (List Bool)} (h : dnV a = dnV b) : a = b := by
  unfold dnV at h
  split at h <;> split at h
  · rename_i h1 h2; rw [h1, h2]
  · cases h
  · cases h
  · simp only [V.sl.injEq, true_and] at h; exact map_inj bls_inj1 h
@[simp high] theorem len_snV (l : List (List Int)) : (snV l).len = some l.length := by
  unfold snV; split
  · rename_i e; subst e; rfl
  · simp [V.len]
@[simp high] theorem len_dnV (l : List (List Bool)) : (dnV l).len = some l.length := by
  unfold dnV; split
  · rename_i e; subst e; rfl
  · simp [V.len]
theorem snV_ne {l : List (List Int)} (h : 0 < l.length) : snV l = .sl 1 (l.map fun x => [ints x]) := by unfold snV; rw [if_neg]; rintro rfl; simp at h
theorem dnV_ne {l : List (List Bool)} (h : 0 < l.length) : dnV l = .sl 1 (l.map fun x => [bls x]) := by unfold dnV; rw [if_neg]; rintro rfl; simp at h
theorem RS.row_inj (a b : RS) (h : a.row = b.row) : a = b := by
  obtain ⟨u, w, i, s, d⟩ := a; obtain ⟨u', w', i', s', d'⟩ := b
  simp only [RS.row, List.cons.injEq, V.sl.injEq, true_and, and_true] at h
  obtain ⟨h1, h2, h3, h4, h5⟩ := h
  rw [cycV_inj h1, cycV_inj h2, map_inj rb_inj h3, snV_inj h4, dnV_inj h5]
/-- A part of the reference's state, as the program keeps one. -/
def RS.pt (t : RS) (r : Reg) (p : Nat) : PS := { kind := (r.parts.getD p default).kind, hours := (t.used.getD p (0, 0)).1, cycles := (t.used.getD p (0, 0)).2, known := (r.parts.getD p default).known, a := (t.whr.getD p (0, 0)).1, b := (t.whr.getD p (0, 0)).2, since := t.since.map fun l => l.getD p 0, chk := t.done.map fun l => l.getD p false }
def RS.ps (t : RS) (r : Reg) : List PS := (List.range r.parts.length).map (t.pt r)
def RS.hi (t : RS) (r : Reg) : HI := { r := r, ps := t.ps r, iss := t.iss, v1 := .top, v2 := .top, v3 := .top }
theorem RS.ps_len (t : RS) (r : Reg) : (t.ps r).length = r.parts.length := by simp [RS.ps]
theorem RS.ps_get (t : RS) (r : Reg) {p : Nat} (h : p < r.parts.length) : (t.ps r)[p]? = some (t.pt r p) := by simp [RS.ps, h]
/-- A state of a register. -/
structure RS.Wf (t : RS) (r : Reg) : Prop where
  val : r.valid = true
  used : t.used.length = r.parts.length
  whr : t.whr.length = r.parts.length
  iss : t.iss.length = r.orders.length
  since : t.since.length = r.orders.length
  done : t.done.length = r.orders.length
  sincer : ∀ l ∈ t.since, l.length = r.parts.length
  doner : ∀ l ∈ t.done, l.length = r.parts.length
theorem RS.Wf.small {t : RS} {r : Reg} (h : t.Wf r) : (t.hi r).Small := by
  obtain ⟨v1, v2, v3, v4, v5, v6, _⟩ := valid_facts h.val
  exact ⟨by show (t.ps r).length ≤ 1000; rw [RS.ps_len]; omega, by show r.kinds.length ≤ 1000; omega, fun kd hk => by have := v6 kd hk; omega⟩
theorem RS.Wf.fit {t : RS} {r : Reg} (h : t.Wf r) {p : Nat} (hp : p < r.parts.length) : (t.hi r).Fit (t.pt r p) := by
  obtain ⟨v1, v2, v3, v4, v5, v6, v7, v8⟩ := valid_facts h.val
  have := v7 _ (getD_mem hp)
  exact ⟨this.1, this.2.1, h.iss, by simp [RS.pt, RS.hi, h.done], by simp [RS.pt, RS.hi, h.since], by show r.orders.length ≤ _; omega⟩
/-- The state at first. -/
def RS.new (r : Reg) : RS := { used := r.parts.map fun p => (p.hours, p.cycles), whr := r.parts.map fun _ => (-1, -1), iss := List.replicate r.orders.length false, since := List.replicate r.orders.length (List.replicate r.parts.length 0), done := List.replicate r.orders.length (List.replicate r.parts.length false) }
theorem RS.Wf.new {r : Reg} (h : r.valid = true) : (RS.new r).Wf r :=
  ⟨h, by simp [RS.new], by simp [RS.new], by simp [RS.new], by simp [RS.new], by simp [RS.new], fun l hl => by rw [(List.mem_replicate.1 hl).2]; simp, fun l hl => by rw [(List.mem_replicate.1 hl).2]; simp⟩

/-! the object that 'copied' makes -/
def lsV (k n : Nat) : V := if n = 0 then .nil else .bsl k 0 n
def lsB (rows : List (List V)) (ty : Nat) : List Blk := if rows.length = 0 then [] else [{ z := 1, els := rows, ty := ty, cl := false }]
theorem lsV_ne {k n : Nat} (h : 0 < n) : lsV k n = .bsl k 0 n := by unfold lsV; rw [if_neg (by omega)]
theorem lsB_ne {rows : List (List V)} {ty : Nat} (h : 0 < rows.length) : lsB rows ty = [{ z := 1, els := rows, ty := ty, cl := false }] := by unfold lsB; rw [if_neg (by omega)]
def snR (l : List (List Int)) : List (List V) := l.mapIdx fun k x => [.bsl 11629 k x.length]
def dnR (l : List (List Bool)) : List (List V) := l.mapIdx fun k x => [.bsl 11640 k x.length]
def cpB (l : List (Int × Int)) : Blk := { z := 2, els := l.map cycV, ty := 41 }
def ibB (l : List Int) : Blk := { z := 1, els := l.map ri, ty := 3 }
def bbB (l : List Bool) : Blk := { z := 1, els := l.map rb, ty := 4 }
def cpL (t : RS) : List (Nat × Site) :=
  [(11607, { base := 0, blks := [cpB t.used] }), (11610, { base := 0, blks := [cpB t.whr] }), (11613, { base := 0, blks := [bbB t.iss] }),
   (11631, { base := 0, blks := lsB (snR t.since) 37 }), (11629, { base := 0, blks := t.since.map ibB }), (11642, { base := 0, blks := lsB (dnR t.done) 70 }), (11640, { base := 0, blks := t.done.map bbB })]
abbrev cpK : List Nat := [11607, 11610, 11613, 11631, 11629, 11642, 11640]
theorem cpL_keys (t : RS) : (cpL t).map (·.1) = cpK := rfl
def cpV (t : RS) : V := .agg [.bsl 11607 0 t.used.length, .bsl 11610 0 t.whr.length, .bsl 11613 0 t.iss.length, lsV 11631 t.since.length, lsV 11642 t.done.length]
theorem cpL_inj (s s' : RS) (h : ∀ k ∈ cpK, hps (cpL s) noH k = hps (cpL s') noH k) : s = s' := by
  have h1 := congrArg Site.blks (h 11607 (by simp))
  have h2 := congrArg Site.blks (h 11610 (by simp))
  have h3 := congrArg Site.blks (h 11613 (by simp))
  have h4 := congrArg Site.blks (h 11629 (by simp))
  have h5 := congrArg Site.blks (h 11640 (by simp))
  simp only [cpL, hps_cons] at h1 h2 h3 h4 h5
  simp at h1 h2 h3 h4 h5
  obtain ⟨u, w, i, sn, d⟩ := s; obtain ⟨u', w', i', sn', d'⟩ := s'
  simp only [cpB, bbB, Blk.mk.injEq, true_and, and_true] at h1 h2 h3
  have e4 := map_inj (f := ibB) (fun a b h => by simp only [ibB, Blk.mk.injEq, true_and, and_true] at h; exact map_ri_inj h) h4
  have e5 := map_inj (f := bbB) (fun a b h => by simp only [bbB, Blk.mk.injEq, true_and, and_true] at h; exact map_inj rb_inj h) h5
  simp only at e4 e5
  rw [cycV_inj h1, cycV_inj h2, map_inj rb_inj h3, e4, e5]
section
variable [Gls] (s : RS) (h : Hp)
@[simp] theorem c11607 : Ob cpL s h 11607 = { base := 0, blks := [{ z := 2, els := s.used.map cycV, ty := 41 }] } := rfl
@[simp] theorem c11610 : Ob cpL s h 11610 = { base := 0, blks := [{ z := 2, els := s.whr.map cycV, ty := 41 }] } := rfl
@[simp] theorem c11613 : Ob cpL s h 11613 = { base := 0, blks := [{ z := 1, els := s.iss.map rb, ty := 4 }] } := rfl
@[simp] theorem c11631 : Ob cpL s h 11631 = { base := 0, blks := lsB (snR s.since) 37 } := rfl
@[simp] theorem c11629 : Ob cpL s h 11629 = { base := 0, blks := s.since.map ibB } := rfl
@[simp] theorem c11642 : Ob cpL s h 11642 = { base := 0, blks := lsB (dnR s.done) 70 } := rfl
@[simp] theorem c11640 : Ob cpL s h 11640 = { base := 0, blks := s.done.map bbB } := rfl
@[simp] theorem c_ne {k : Nat} (hn : cpK.contains k = false) : Ob cpL s h k = h k := ob_ne cpL_keys hn
@[simp] theorem c_c (s' : RS) : Ob cpL s (Ob cpL s' h) = Ob cpL s h := ob_ob cpL_keys _ _ _
@[simp] theorem c_hget (k i : Nat) : hget (Ob cpL s h) k i = if i < (Ob cpL s h k).base then none else (Ob cpL s h k).blks[i - (Ob cpL s h k).base]? := rfl
@[simp] theorem c_hnext (k : Nat) : hnext (Ob cpL s h) k = (Ob cpL s h k).base + (Ob cpL s h k).blks.length := rfl
@[simp] theorem c_hpush {k : Nat} (hn : cpK.contains k = false) (B : Blk) : hpush (Ob cpL s h) k B = Ob cpL s (hpush h k B) := ob_hpush cpL_keys hn B
theorem c_hset {k i : Nat} (hn : cpK.contains k = false) (B : Blk) : hset (Ob cpL s h) k i B = Ob cpL s (hset h k i B) := ob_hset cpL_keys hn B
@[simp] theorem c_over {k : Nat} {S : Site} {L : List (Nat × Site)} (hn : (((k, S) :: L).all fun p => !cpK.contains p.1) = true) : hps ((k, S) :: L) (Ob cpL s h) = Ob cpL s (hps ((k, S) :: L) h) := ob_over cpL_keys hn
end
section lend
variable [Gls]
theorem lendRs_mapIdx {α : Type} {g : V → Prop × V} {f : Nat → α → List V} {f' : α → List V} {l : List α} (h : ∀ k x, l[k]? = some x → lendCs g (f k x) = (True, f' x)) : lendRs g (l.mapIdx f) = (True, l.map f') := by
  induction l generalizing f with
  | nil => rfl
  | cons a r ih =>
    simp only [List.mapIdx_cons, List.map_cons, lendRs]
    rw [h 0 a rfl, ih (f := fun k x => f (k + 1) x) fun k x hk => h (k + 1) x hk]
    simp
theorem lend_sn (s : RS) (h : Hp) : lendN 3 (Ob cpL s h) (lsV 11631 s.since.length) = (True, snV s.since) := by
  by_cases hn : s.since.length = 0
  · have : s.since = [] := List.length_eq_zero_iff.1 hn
    rw [hn]; simp [lsV, this, lendN, snV]
  · have h0 : ¬ s.since = [] := fun e => hn (by rw [e]; rfl)
    rw [lsV_ne (by omega), snV_ne (by omega)]
    have hr : lendRs (lendN 2 (Ob cpL s h)) (snR s.since) = (True, s.since.map fun l => [ints l]) := by
      refine lendRs_mapIdx fun k x hk => ?_
      have e : (s.since.map ibB)[k]? = some { z := 1, els := x.map ri, ty := 3 } := by rw [List.getElem?_map, hk]; rfl
      simp [lendCs, lendN, V.leaf, e, lendB, ints]
    rw [lendN]
    simp only [c_hget, c11631, Nat.not_lt_zero, if_false, Nat.sub_zero]
    rw [lsB_ne (by simp [snR]; omega)]
    simp only [List.getElem?_cons_zero, lendB, hr]
    simp [snR]
theorem lend_dn (s : RS) (h : Hp) : lendN 3 (Ob cpL s h) (lsV 11642 s.done.length) = (True, dnV s.done) := by
  by_cases hn : s.done.length = 0
  · have : s.done = [] := List.length_eq_zero_iff.1 hn
    rw [hn]; simp [lsV, this, lendN, dnV]
  · have h0 : ¬ s.done = [] := fun e => hn (by rw [e]; rfl)
    rw [lsV_ne (by omega), dnV_ne (by omega)]
    have hr : lendRs (lendN 2 (Ob cpL s h)) (dnR s.done) = (True, s.done.map fun l => [bls l]) := by
      refine lendRs_mapIdx fun k x hk => ?_
      have e : (s.done.map bbB)[k]? = some { z := 1, els := x.map rb, ty := 4 } := by rw [List.getElem?_map, hk]; rfl
      simp [lendCs, lendN, V.leaf, e, lendB, bls]
    rw [lendN]
    simp only [c_hget, c11642, Nat.not_lt_zero, if_false, Nat.sub_zero]
    rw [lsB_ne (by simp [dnR]; omega)]
    simp only [List.getElem?_cons_zero, lendB, hr]
    simp [dnR]
theorem leaf_lsV (k n : Nat) : (lsV k n).leaf = true := by unfold lsV; split <;> rfl
/-- The state that 'copied' returns, lent. -/
theorem lend_cp (s : RS) (h : Hp) : lend (Ob cpL s h) (cpV s) = (True, .agg s.row) := by
  have z1 : lendN 3 (Ob cpL s h) (.bsl 11607 0 s.used.length) = (True, .sl 2 (s.used.map cycV)) := by simp [lendN, lendB]
  have z2 : lendN 3 (Ob cpL s h) (.bsl 11610 0 s.whr.length) = (True, .sl 2 (s.whr.map cycV)) := by simp [lendN, lendB]
  have z3 : lendN 3 (Ob cpL s h) (.bsl 11613 0 s.iss.length) = (True, .sl 1 (s.iss.map rb)) := by simp [lendN, lendB]
  have z4 := lend_sn s h
  have z5 := lend_dn s h
  simp only [cpV, lend, lends1, lend1, z1, z2, z3, z4, z5, RS.row]
  simp
end lend
end Go.Sx
end
section
/- Parts: what the reference reads. No conditions. -/
set_option linter.unusedSimpArgs false
set_option linter.unusedSectionVars false
set_option maxRecDepth 100000
set_option maxHeartbeats 2000000
namespace Go.Sx
open Go.Proofs
attribute [local irreducible] HLe
attribute [local simp] hps_app

def regE0 (r : Reg) : Int := if r.valid = true then 0 else 90
noncomputable abbrev regS : PSpec := mkP regE (fun r => r.kinds.length ≤ 9223372036854775807 ∧ r.parts.length ≤ 9223372036854775807 ∧ r.orders.length ≤ 9223372036854775807) fun r => .int .i64 (regE0 r)
noncomputable abbrev E113 : Env := { P := Tryz.prog, fn := tbl [(37, .pure withinS)], own := [], key := 11300, nt := 119 }
theorem b113 : PureBody E113 [] Tryz.f113 regS := by
  refine pb ?_
  rintro r ⟨b1, b2, b3⟩
  by_cases c1 : r.kinds.length ≤ 6
  case neg =>
    have d1 : (6 : Int) < r.kinds.length := by omega
    have hv : regE0 r = 90 := by simp [regE0, Reg.valid, c1]
    simp -dsimp [Tryz.f113, E113, Reg.row]
    repeat' (first | omega | (simp -dsimp [E113, ri, cellp, ints, b1, b2, b3, d1, hv]) | (refine Also.intro ?_ fun _ => ?_) | (refine Hold.intro fun _ => ?_) | (refine And.intro ?_ ?_))
  have d1 : ¬ (6 : Int) < r.kinds.length := by omega
  by_cases c2 : r.parts.length ≤ 24
  case neg =>
    have d2 : (24 : Int) < r.parts.length := by omega
    have hv : regE0 r = 90 := by simp [regE0, Reg.valid, c2]
    simp -dsimp [Tryz.f113, E113, Reg.row]
    repeat' (first | omega | (simp -dsimp [E113, ri, cellp, ints, b1, b2, b3, d1, d2, hv]) | (refine Also.intro ?_ fun _ => ?_) | (refine Hold.intro fun _ => ?_) | (refine And.intro ?_ ?_))
  have d2 : ¬ (24 : Int) < r.parts.length := by omega
  by_cases c3 : r.orders.length ≤ 6
  case neg =>
    have d3 : (6 : Int) < r.orders.length := by omega
    have hv : regE0 r = 90 := by simp [regE0, Reg.valid, c3]
    simp -dsimp [Tryz.f113, E113, Reg.row]
    repeat' (first | omega | (simp -dsimp [E113, ri, cellp, ints, b1, b2, b3, d1, d2, d3, hv]) | (refine Also.intro ?_ fun _ => ?_) | (refine Hold.intro fun _ => ?_) | (refine And.intro ?_ ?_))
  have d3 : ¬ (6 : Int) < r.orders.length := by omega
  cases c4 : withinB r.machines 0 4
  · have hv : regE0 r = 90 := by simp [regE0, Reg.valid, c4]
    simp -dsimp [Tryz.f113, E113, Reg.row]
    repeat' (first | omega | (simp -dsimp [E113, ri, cellp, ints, b1, b2, b3, d1, d2, d3, c4, hv]) | (refine Also.intro ?_ fun _ => ?_) | (refine Hold.intro fun _ => ?_) | (refine And.intro ?_ ?_))
  have hval : r.valid = (!r.kinds.any Kd.bad && (!r.parts.any r.badP && !r.orders.any r.badO)) := by simp [Reg.valid, c1, c2, c3, c4]
  simp -dsimp [Tryz.f113, E113, Reg.row]
  repeat' (first | omega | (simp -dsimp [E113, ri, cellp, ints, b1, b2, b3, d1, d2, d3, c4]) | (refine Also.intro ?_ fun _ => ?_) | (refine Hold.intro fun _ => ?_) | (refine And.intro ?_ ?_))
  refine awp_loop [30, 31, 32, 33, 34, 37, 38, 39, 40, 41, 4, 42, 43, 44, 45, 46, 47, 48, 49, 50, 51, 52, 53, 54, 55, 56, 57, 2, 35, 36, 3] (fun k : { k : Nat // k ≤ r.kinds.length ∧ ∀ j (h : j < r.kinds.length), j < k → r.kinds[j].bad = false } => [(3, (true, .int .i64 (k.1 : Nat)))])
    (fun k => hps [(11301, { base := 0, blks := [{ z := 4, els := [[.sl 3 (r.kinds.map Kd.row), .sl 4 (r.parts.map Pt.row), .int .i64 r.machines, .sl 2 (r.orders.map Od.row)]], ty := 26 }] }), (11304, { base := k.1, blks := [] })] noH) (fun k => r.kinds.length - k.1) ⟨0, by omega, fun _ _ h => by omega⟩ ?_ ?_ ?_
  · simp [okAll, okv]
  · exact (by (try simp -dsimp only [hpush_noH, hpush_hps, hps_over]); refine hle_hps ?_; simp -dsimp [allK, ]; repeat' (first | (refine And.intro ?_ ?_) | (refine sLe.same ?_ ?_ <;> (simp; done)) | (refine sLe.clear ?_ ?_ <;> (first | (simp; done) | (simp; omega))) | (refine sLe.drop 1 ?_ ?_ ?_ <;> (simp; done))))
  rintro ⟨k, hk, hall⟩
  simp only
  by_cases hk1 : k < r.kinds.length
  · have hki : (k : Int) < r.kinds.length := by omega
    have wk : IntKind.wrap .i64 ((k : Int) + 1) = (k + 1 : Nat) := wrap_id (by omega) (by omega)
    obtain ⟨kd, hkd, hkd'⟩ := get_ex hk1
    have hbd : kd.bad = (!withinB kd.hours 1 100000 || !withinB kd.cycles 1 100000 || !withinB kd.places 0 4) := rfl
    cases hb : kd.bad
    · rw [hb] at hbd
      have hq : withinB kd.hours 1 100000 = true ∧ withinB kd.cycles 1 100000 = true ∧ withinB kd.places 0 4 = true := by
        have := hbd.symm
        simp only [Bool.or_eq_false_iff, Bool.not_eq_false'] at this
        exact ⟨this.1.1, this.1.2, this.2⟩
      obtain ⟨q1, q2, q3⟩ := hq
      clear hbd
      simp -dsimp [hki]
      repeat' (first | omega | (simp -dsimp [E113, ri, cellp, ints, hki, hk1, hkd, hkd', wk, Kd.row, q1, q2, q3]) | (refine Also.intro ?_ fun _ => ?_) | (refine Hold.intro fun _ => ?_) | (refine And.intro ?_ ?_))
      refine ⟨k + 1, tle_chain rfl ?_, (by (try simp -dsimp only [hpush_noH, hpush_hps, hps_over]); refine hle_hps ?_; simp -dsimp [allK, ]; repeat' (first | (refine And.intro ?_ ?_) | (refine sLe.same ?_ ?_ <;> (simp; done)) | (refine sLe.clear ?_ ?_ <;> (first | (simp; done) | (simp; omega))) | (refine sLe.drop 1 ?_ ?_ ?_ <;> (simp; done)))), ⟨by omega, fun j h hj => ?_⟩, by omega⟩
      · simp [okAll, okv]
      · by_cases hjk : j = k
        · subst hjk; rw [hkd', hb]
        · exact hall j h (by omega)
    · have hany : r.kinds.any Kd.bad = true := List.any_eq_true.2 ⟨kd, hkd' ▸ List.getElem_mem hk1, hb⟩
      have hv : regE0 r = 90 := by simp [regE0, hval, hany]
      rw [hb] at hbd
      cases q1 : withinB kd.hours 1 100000
      · simp -dsimp [hki]
        repeat' (first | omega | (simp -dsimp [E113, ri, cellp, ints, hki, hk1, hkd, hkd', wk, Kd.row, q1, hv]) | (refine Also.intro ?_ fun _ => ?_) | (refine Hold.intro fun _ => ?_) | (refine And.intro ?_ ?_))
      cases q2 : withinB kd.cycles 1 100000
      · simp -dsimp [hki]
        repeat' (first | omega | (simp -dsimp [E113, ri, cellp, ints, hki, hk1, hkd, hkd', wk, Kd.row, q1, q2, hv]) | (refine Also.intro ?_ fun _ => ?_) | (refine Hold.intro fun _ => ?_) | (refine And.intro ?_ ?_))
      cases q3 : withinB kd.places 0 4
      · simp -dsimp [hki]
        repeat' (first | omega | (simp -dsimp [E113, ri, cellp, ints, hki, hk1, hkd, hkd', wk, Kd.row, q1, q2, q3, hv]) | (refine Also.intro ?_ fun _ => ?_) | (refine Hold.intro fun _ => ?_) | (refine And.intro ?_ ?_))
      · rw [q1, q2, q3] at hbd; simp at hbd
  have hkn : ¬ (k : Int) < r.kinds.length := by omega
  have hany : r.kinds.any Kd.bad = false := by
    rw [List.any_eq_false]
    intro x hx
    obtain ⟨j, hj, rfl⟩ := List.mem_iff_getElem.1 hx
    rw [hall j hj (by omega)]; simp
  have hke : k = r.kinds.length := by omega
  subst hke
  simp -dsimp [hkn]
  repeat' (first | omega | (simp -dsimp [E113, ri, cellp, ints, hkn]) | (refine Also.intro ?_ fun _ => ?_) | (refine Hold.intro fun _ => ?_) | (refine And.intro ?_ ?_))
  clear hall hk hkn hk1
  refine awp_loop [58, 59, 60, 61, 62, 65, 66, 67, 68, 69, 6, 70, 71, 72, 73, 74, 75, 76, 77, 78, 79, 80, 81, 82, 83, 84, 85, 86, 87, 88, 89, 2, 63, 64, 5] (fun k : { k : Nat // k ≤ r.parts.length ∧ ∀ j (h : j < r.parts.length), j < k → r.badP r.parts[j] = false } => [(5, (true, .int .i64 (k.1 : Nat)))])
    (fun k => hps [(11301, { base := 0, blks := [{ z := 4, els := [[.sl 3 (r.kinds.map Kd.row), .sl 4 (r.parts.map Pt.row), .int .i64 r.machines, .sl 2 (r.orders.map Od.row)]], ty := 26 }] }), (11306, { base := k.1, blks := [] }), (11304, { base := r.kinds.length, blks := [] })] noH) (fun k => r.parts.length - k.1) ⟨0, by omega, fun _ _ h => by omega⟩ ?_ ?_ ?_
  · simp [okAll, okv]
  · exact (by (try simp -dsimp only [hpush_noH, hpush_hps, hps_over]); refine hle_hps ?_; simp -dsimp [allK, ]; repeat' (first | (refine And.intro ?_ ?_) | (refine sLe.same ?_ ?_ <;> (simp; done)) | (refine sLe.clear ?_ ?_ <;> (first | (simp; done) | (simp; omega))) | (refine sLe.drop 1 ?_ ?_ ?_ <;> (simp; done))))
  rintro ⟨k, hk, hall⟩
  simp only
  by_cases hk1 : k < r.parts.length
  · have hki : (k : Int) < r.parts.length := by omega
    have wk : IntKind.wrap .i64 ((k : Int) + 1) = (k + 1 : Nat) := wrap_id (by omega) (by omega)
    obtain ⟨p, hp, hp'⟩ := get_ex hk1
    have hbd : r.badP p = (!withinB p.kind 0 (IntKind.wrap .i64 ((r.kinds.length : Int) - 1)) || !withinB p.hours 0 100000 || !withinB p.cycles 0 100000) := rfl
    cases hb : r.badP p
    · rw [hb] at hbd
      have hq : withinB p.kind 0 (IntKind.wrap .i64 ((r.kinds.length : Int) - 1)) = true ∧ withinB p.hours 0 100000 = true ∧ withinB p.cycles 0 100000 = true := by
        have := hbd.symm
        simp only [Bool.or_eq_false_iff, Bool.not_eq_false'] at this
        exact ⟨this.1.1, this.1.2, this.2⟩
      obtain ⟨q1, q2, q3⟩ := hq
      clear hbd
      simp -dsimp [hki]
      repeat' (first | omega | (simp -dsimp [E113, ri, cellp, ints, hki, hk1, hp, hp', wk, Pt.row, q1, q2, q3]) | (refine Also.intro ?_ fun _ => ?_) | (refine Hold.intro fun _ => ?_) | (refine And.intro ?_ ?_))
      refine ⟨k + 1, tle_chain rfl ?_, (by (try simp -dsimp only [hpush_noH, hpush_hps, hps_over]); refine hle_hps ?_; simp -dsimp [allK, ]; repeat' (first | (refine And.intro ?_ ?_) | (refine sLe.same ?_ ?_ <;> (simp; done)) | (refine sLe.clear ?_ ?_ <;> (first | (simp; done) | (simp; omega))) | (refine sLe.drop 1 ?_ ?_ ?_ <;> (simp; done)))), ⟨by omega, fun j h hj => ?_⟩, by omega⟩
      · simp [okAll, okv]
      · by_cases hjk : j = k
        · subst hjk; rw [hp', hb]
        · exact hall j h (by omega)
    · have hany2 : r.parts.any r.badP = true := List.any_eq_true.2 ⟨p, hp' ▸ List.getElem_mem hk1, hb⟩
      have hv : regE0 r = 90 := by simp [regE0, hval, hany2]
      rw [hb] at hbd
      cases q1 : withinB p.kind 0 (IntKind.wrap .i64 ((r.kinds.length : Int) - 1))
      · simp -dsimp [hki]
        repeat' (first | omega | (simp -dsimp [E113, ri, cellp, ints, hki, hk1, hp, hp', wk, Pt.row, q1, hv]) | (refine Also.intro ?_ fun _ => ?_) | (refine Hold.intro fun _ => ?_) | (refine And.intro ?_ ?_))
      cases q2 : withinB p.hours 0 100000
      · simp -dsimp [hki]
        repeat' (first | omega | (simp -dsimp [E113, ri, cellp, ints, hki, hk1, hp, hp', wk, Pt.row, q1, q2, hv]) | (refine Also.intro ?_ fun _ => ?_) | (refine Hold.intro fun _ => ?_) | (refine And.intro ?_ ?_))
      cases q3 : withinB p.cycles 0 100000
      · simp -dsimp [hki]
        repeat' (first | omega | (simp -dsimp [E113, ri, cellp, ints, hki, hk1, hp, hp', wk, Pt.row, q1, q2, q3, hv]) | (refine Also.intro ?_ fun _ => ?_) | (refine Hold.intro fun _ => ?_) | (refine And.intro ?_ ?_))
      · rw [q1, q2, q3] at hbd; simp at hbd
  have hkn : ¬ (k : Int) < r.parts.length := by omega
  have hany2 : r.parts.any r.badP = false := by
    rw [List.any_eq_false]
    intro x hx
    obtain ⟨j, hj, rfl⟩ := List.mem_iff_getElem.1 hx
    rw [hall j hj (by omega)]; simp
  have hke : k = r.parts.length := by omega
  subst hke
  simp -dsimp [hkn]
  repeat' (first | omega | (simp -dsimp [E113, ri, cellp, ints, hkn]) | (refine Also.intro ?_ fun _ => ?_) | (refine Hold.intro fun _ => ?_) | (refine And.intro ?_ ?_))
  clear hall hk hkn hk1
  refine awp_loop [90, 91, 92, 93, 94, 97, 98, 99, 100, 101, 102, 103, 104, 105, 106, 107, 108, 109, 110, 111, 112, 113, 114, 115, 116, 117, 118, 2, 95, 96, 7] (fun k : { k : Nat // k ≤ r.orders.length ∧ ∀ j (h : j < r.orders.length), j < k → r.badO r.orders[j] = false } => [(7, (true, .int .i64 (k.1 : Nat)))])
    (fun k => hps [(11301, { base := 0, blks := [{ z := 4, els := [[.sl 3 (r.kinds.map Kd.row), .sl 4 (r.parts.map Pt.row), .int .i64 r.machines, .sl 2 (r.orders.map Od.row)]], ty := 26 }] }), (11306, { base := r.parts.length, blks := [] }), (11304, { base := r.kinds.length, blks := [] })] noH) (fun k => r.orders.length - k.1) ⟨0, by omega, fun _ _ h => by omega⟩ ?_ ?_ ?_
  · simp [okAll, okv]
  · exact (by (try simp -dsimp only [hpush_noH, hpush_hps, hps_over]); refine hle_hps ?_; simp -dsimp [allK, ]; repeat' (first | (refine And.intro ?_ ?_) | (refine sLe.same ?_ ?_ <;> (simp; done)) | (refine sLe.clear ?_ ?_ <;> (first | (simp; done) | (simp; omega))) | (refine sLe.drop 1 ?_ ?_ ?_ <;> (simp; done))))
  rintro ⟨k, hk, hall⟩
  simp only
  by_cases hk1 : k < r.orders.length
  · have hki : (k : Int) < r.orders.length := by omega
    have wk : IntKind.wrap .i64 ((k : Int) + 1) = (k + 1 : Nat) := wrap_id (by omega) (by omega)
    obtain ⟨p, hp, hp'⟩ := get_ex hk1
    have hbd : r.badO p = (!withinB p.kind 0 (IntKind.wrap .i64 ((r.kinds.length : Int) - 1)) || !withinB p.within 0 100000) := rfl
    cases hb : r.badO p
    · rw [hb] at hbd
      have hq : withinB p.kind 0 (IntKind.wrap .i64 ((r.kinds.length : Int) - 1)) = true ∧ withinB p.within 0 100000 = true := by
        have := hbd.symm
        simp only [Bool.or_eq_false_iff, Bool.not_eq_false'] at this
        exact this
      obtain ⟨q1, q2⟩ := hq
      clear hbd
      simp -dsimp [hki]
      repeat' (first | omega | (simp -dsimp [E113, ri, cellp, ints, hki, hk1, hp, hp', wk, Od.row, q1, q2]) | (refine Also.intro ?_ fun _ => ?_) | (refine Hold.intro fun _ => ?_) | (refine And.intro ?_ ?_))
      refine ⟨k + 1, tle_chain rfl ?_, (by (try simp -dsimp only [hpush_noH, hpush_hps, hps_over]); refine hle_hps ?_; simp -dsimp [allK, ]; repeat' (first | (refine And.intro ?_ ?_) | (refine sLe.same ?_ ?_ <;> (simp; done)) | (refine sLe.clear ?_ ?_ <;> (first | (simp; done) | (simp; omega))) | (refine sLe.drop 1 ?_ ?_ ?_ <;> (simp; done)))), ⟨by omega, fun j h hj => ?_⟩, by omega⟩
      · simp [okAll, okv]
      · by_cases hjk : j = k
        · subst hjk; rw [hp', hb]
        · exact hall j h (by omega)
    · have hany3 : r.orders.any r.badO = true := List.any_eq_true.2 ⟨p, hp' ▸ List.getElem_mem hk1, hb⟩
      have hv : regE0 r = 90 := by simp [regE0, hval, hany3]
      rw [hb] at hbd
      cases q1 : withinB p.kind 0 (IntKind.wrap .i64 ((r.kinds.length : Int) - 1))
      · simp -dsimp [hki]
        repeat' (first | omega | (simp -dsimp [E113, ri, cellp, ints, hki, hk1, hp, hp', wk, Od.row, q1, hv]) | (refine Also.intro ?_ fun _ => ?_) | (refine Hold.intro fun _ => ?_) | (refine And.intro ?_ ?_))
      cases q2 : withinB p.within 0 100000
      · simp -dsimp [hki]
        repeat' (first | omega | (simp -dsimp [E113, ri, cellp, ints, hki, hk1, hp, hp', wk, Od.row, q1, q2, hv]) | (refine Also.intro ?_ fun _ => ?_) | (refine Hold.intro fun _ => ?_) | (refine And.intro ?_ ?_))
      · rw [q1, q2] at hbd; simp at hbd
  have hkn : ¬ (k : Int) < r.orders.length := by omega
  have hany3 : r.orders.any r.badO = false := by
    rw [List.any_eq_false]
    intro x hx
    obtain ⟨j, hj, rfl⟩ := List.mem_iff_getElem.1 hx
    rw [hall j hj (by omega)]; simp
  have hv : regE0 r = 0 := by simp [regE0, hval, hany, hany2, hany3]
  simp -dsimp [hkn]
  repeat' (first | omega | (simp -dsimp [E113, ri, cellp, ints, hkn, hv]) | (refine Also.intro ?_ fun _ => ?_) | (refine Hold.intro fun _ => ?_) | (refine And.intro ?_ ?_))
theorem ok113 : FnOK Tryz.prog 113 (.pure regS) := pure_fn (E := E113) rfl (.cons ok37 .nil) (ok := []) (fn := Tryz.f113) (by kernel_rfl) (by kernel_rfl) (by kernel_rfl) (by kernel_rfl) rfl (fun _ _ => by simp) b113
end Go.Sx
end
