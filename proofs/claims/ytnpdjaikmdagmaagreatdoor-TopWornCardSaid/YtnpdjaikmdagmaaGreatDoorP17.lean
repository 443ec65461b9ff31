/- A part of a proof; no conditions. -/
import Derived.Test.YtnpdjaikmdagmaaGreatDoorP16
import Derived.Test.YtnpdjaikmdagmaaGreatDoorP13
set_option linter.unusedSimpArgs false
set_option linter.unusedVariables false
set_option linter.unusedSectionVars false
section
/- Parts: Check, Used, Where, Left, Lacks, Longest, Due. No conditions. -/
set_option linter.unusedSimpArgs false
set_option linter.unusedSectionVars false
set_option maxRecDepth 100000
set_option maxHeartbeats 2000000
namespace Go.Sx
open Go.Proofs
attribute [local irreducible] HLe
attribute [local simp] hps_app

theorem opE_inv {r : Reg} {l : List Wk} (h : opE r l = 0) : r.valid = true ∧ l.length ≤ 200 ∧ (∀ j, j < l.length → okAt r l j = true) ∧ (opH r l).Inv r l.length := by
  unfold opE at h
  split at h
  · rename_i h1
    split at h
    · rename_i h2
      split at h
      · rename_i h3
        have : ∀ j, j < l.length → okAt r l j = true := by
          intro j hj
          have hz := idxZ_any (List.range l.length) fun j => !okAt r l j
          have e : decide (0 ≤ idxZ (List.range l.length) fun j => !okAt r l j) = false := by
            have : idxZ (List.range l.length) (fun j => !okAt r l j) = badAt r l := rfl
            rw [this]; simp; omega
          rw [e] at hz
          have := List.any_eq_false.1 hz.symm j (by simpa using hj)
          simpa using this
        exact ⟨h1, h2, this, stT_inv h1 _ (by omega) this⟩
      · omega
    · omega
  · omega
theorem opE_ok {r : Reg} {l : List Wk} (h : opE r l = 0) : (opH r l).Ok := (opE_inv h).2.2.2.ok (by have := (opE_inv h).2.1; omega)
noncomputable abbrev checkFS : PSpec := mkP rlE RL.Fine fun d => .tup [.int .i64 (opA d.r d.l), .int .i64 (opE d.r d.l)]
@[simp] def ptOE (p : PS) : List V := [ptI p]
theorem ptOE_inj (a b : PS) (h : ptOE a = ptOE b) : a = b := ptI_inj _ _ (by simpa using h)
theorem ptOE_dec (p : PS) : decC ptOE [.ip 8 [[.int .i64 p.kind, .int .i64 p.hours, .int .i64 p.cycles, .bool p.known, .int .i64 p.a, .int .i64 p.b, .sl 1 (p.since.map ri), .sl 1 (p.chk.map rb)]] 0 0] = p := decC_eq ptOE_inj p
noncomputable abbrev used1S : PSpec := mkP ptOE (fun _ => True) fun p => .agg [.int .i64 p.hours, .int .i64 p.cycles]
noncomputable abbrev E29 : Env := { P := Tryz.prog, fn := tbl [], own := [], key := 2900, nt := 14 }
theorem b29 : PureBody E29 [] Tryz.f29 used1S := by
  refine pb ?_
  rintro p _
  simp -dsimp [Tryz.f29, E29, ptI, PS.irow]
  repeat' (first | omega | (simp -dsimp [E29, ri, cellp, ints, ptI, PS.irow]) | (refine Also.intro ?_ fun _ => ?_) | (refine Hold.intro fun _ => ?_) | (refine And.intro ?_ ?_))
theorem ok29 : FnOK Tryz.prog 29 (.pure used1S) := pure_fn (E := E29) rfl LOK.nil (ok := []) (fn := Tryz.f29) (by kernel_rfl) (by kernel_rfl) (by kernel_rfl) (by kernel_rfl) rfl (fun _ _ => by simp) b29
noncomputable abbrev where1S : PSpec := mkP ptOE (fun _ => True) fun p => .agg [.int .i64 p.a, .int .i64 p.b]
noncomputable abbrev E28 : Env := { P := Tryz.prog, fn := tbl [], own := [], key := 2800, nt := 7 }
theorem b28 : PureBody E28 [] Tryz.f28 where1S := by
  refine pb ?_
  rintro p _
  simp -dsimp [Tryz.f28, E28, ptI, PS.irow]
  repeat' (first | omega | (simp -dsimp [E28, ri, cellp, ints, ptI, PS.irow]) | (refine Also.intro ?_ fun _ => ?_) | (refine Hold.intro fun _ => ?_) | (refine And.intro ?_ ?_))
theorem ok28 : FnOK Tryz.prog 28 (.pure where1S) := pure_fn (E := E28) rfl LOK.nil (ok := []) (fn := Tryz.f28) (by kernel_rfl) (by kernel_rfl) (by kernel_rfl) (by kernel_rfl) rfl (fun _ _ => by simp) b28
/-- The rows of the first k. -/
def tkV {α : Type} (f : α → List V) (l : List α) (k : Nat) : List (List V) := (l.take k).map f
@[simp] theorem tkV_zero {α : Type} (f : α → List V) (l : List α) : tkV f l 0 = [] := rfl
theorem tkV_succ {α : Type} (f : α → List V) {l : List α} {k : Nat} {x : α} (h : l[k]? = some x) : tkV f l (k + 1) = tkV f l k ++ [f x] := by
  simp [tkV, List.take_add_one, h]
theorem tkV_len {α : Type} (f : α → List V) {l : List α} {k : Nat} (h : k ≤ l.length) : (tkV f l k).length = k := by simp [tkV]; omega
theorem tkV_all {α : Type} (f : α → List V) (l : List α) : tkV f l l.length = l.map f := by simp [tkV]
structure EaD where
  r : Reg
  l : List Wk
  b : Bool
  deriving Inhabited
@[simp] def eaE (d : EaD) : List V := [.agg d.r.row, .sl 4 (d.l.map Wk.row), .fn (if d.b then 29 else 28) []]
theorem eaE_inj (x y : EaD) (h : eaE x = eaE y) : x = y := by
  obtain ⟨r, l, b⟩ := x; obtain ⟨r', l', b'⟩ := y
  simp only [eaE, List.cons.injEq, V.agg.injEq, V.sl.injEq, true_and, and_true] at h
  obtain ⟨h1, h2, h3⟩ := h
  rw [Reg.row_inj _ _ h1, map_inj Wk.row_inj h2]
  cases b <;> cases b' <;> simp at h3 ⊢
theorem eaE_dec1 (r : Reg) (l : List Wk) : decC eaE [.agg [.sl 3 (r.kinds.map Kd.row), .sl 4 (r.parts.map Pt.row), .int .i64 r.machines, .sl 2 (r.orders.map Od.row)], .sl 4 (l.map Wk.row), .fn 29 []] = ⟨r, l, true⟩ := decC_eq eaE_inj ⟨r, l, true⟩
theorem eaE_dec0 (r : Reg) (l : List Wk) : decC eaE [.agg [.sl 3 (r.kinds.map Kd.row), .sl 4 (r.parts.map Pt.row), .int .i64 r.machines, .sl 2 (r.orders.map Od.row)], .sl 4 (l.map Wk.row), .fn 28 []] = ⟨r, l, false⟩ := decC_eq eaE_inj ⟨r, l, false⟩
def eaP (b : Bool) (p : PS) : Int × Int := if b then (p.hours, p.cycles) else (p.a, p.b)
def eaR (r : Reg) (l : List Wk) (b : Bool) : List (Int × Int) := if opE r l = 0 then (opH r l).ps.map (eaP b) else []
noncomputable abbrev eachS : PSpec := mkP eaE (fun d => RL.Fine ⟨d.r, d.l⟩) fun d => .tup [prs (eaR d.r d.l d.b), .int .i64 (opE d.r d.l)]
noncomputable abbrev E27 : Env := { P := Tryz.prog, fn := tbl [(18, .pure openS), (29, .pure used1S), (28, .pure where1S)], own := [], key := 2700, nt := 39 }
theorem b27 : PureBody E27 [] Tryz.f27 eachS := by
  refine pb ?_
  rintro ⟨r, l, b⟩ hfn
  by_cases hE : opE r l = 0
  case neg =>
    have hR : eaR r l b = [] := by simp [eaR, hE]
    cases b <;> simp -dsimp [Tryz.f27, E27, Reg.row] <;> repeat' (first | omega | (simp -dsimp [E27, ri, cellp, ints, rlE_dec', Reg.row, hfn, hE, hR, prs]) | (refine Also.intro ?_ fun _ => ?_) | (refine Hold.intro fun _ => ?_) | (refine And.intro ?_ ?_))
  have hR : eaR r l b = (opH r l).ps.map (eaP b) := by simp [eaR, hE]
  have hI := (opE_inv hE).2.2.2
  have hlen : (opH r l).ps.length ≤ 1000 := (opE_ok hE).ps
  rw [hR]
  clear hR
  generalize hs : opH r l = s at *
  have hips : s.i.ps = s.ps := rfl
  cases b <;> simp -dsimp [Tryz.f27, E27, Reg.row] <;> repeat' (first | omega | (simp -dsimp [E27, ri, cellp, ints, rlE_dec', Reg.row, hfn, hE, hs, HI.v, hips]) | (refine Also.intro ?_ fun _ => ?_) | (refine Hold.intro fun _ => ?_) | (refine And.intro ?_ ?_))
  · refine awp_loop_g [(6, 2736, 2, 41)] rfl (by simp) [28, 29, 30, 11, 31, 32, 33, 34, 35, 36, 6, 37, 27] (fun k : Fin (s.ps.length + 1) => [(27, (true, .int .i64 (k.1 : Nat))), (6, (true, .bsl 2736 0 k.1))])
      (fun k => hps [(2736, { base := 0, blks := [{ z := 2, els := tkV (fun p => cycV (eaP false p)) s.ps k.1, ty := 41 }] }), (2703, { base := 1, blks := [] })] noH) (fun k => s.ps.length - k.1) ⟨0, by omega⟩ ?_ ?_ ?_
    · simp [okAll, okv]
    · exact (by (try simp -dsimp only [hpush_noH, hpush_hps, hps_over]); refine hle_hps ?_; simp -dsimp [allK, ]; repeat' (first | (refine And.intro ?_ ?_) | (refine sLe.same ?_ ?_ <;> (simp; done)) | (refine sLe.clear ?_ ?_ <;> (first | (simp; done) | (simp; omega))) | (refine sLe.drop 1 ?_ ?_ ?_ <;> (simp; done))))
    rintro ⟨k, hk⟩
    simp only
    by_cases hk1 : k < s.ps.length
    · have hki : (k : Int) < s.ps.length := by omega
      have wk : IntKind.wrap .i64 ((k : Int) + 1) = (k + 1 : Nat) := wrap_id (by omega) (by omega)
      obtain ⟨p, hp, hp'⟩ := get_ex hk1
      have hpt := ptsI_ne (ps := s.ps) (by omega)
      have hT := tkV_succ (fun p => cycV (eaP false p)) hp
      have hTl := tkV_len (fun p => cycV (eaP false p)) (l := s.ps) (k := k) (by omega)
      have hfp : cycV (eaP false p) = [.int .i64 p.a, .int .i64 p.b] := rfl
      simp only [hfp] at hT
      generalize tkV (fun p => cycV (eaP false p)) s.ps k = T at *
      have hb8 : (k + 1) * 16 ≤ 140737488355328 := by omega
      simp -dsimp [hki, hpt]
      repeat' (first | omega | (simp -dsimp [E27, ri, cellp, ints, hki, hk1, hpt, hp, hp', ptI, PS.irow, ptOE_dec, wk, hTl, hb8]) | (refine Also.intro ?_ fun _ => ?_) | (refine Hold.intro fun _ => ?_) | (refine And.intro ?_ ?_))
      refine ⟨⟨k + 1, by omega⟩, tle_chain rfl ?_, (by (try simp -dsimp only [hpush_noH, hpush_hps, hps_over]); refine hle_hps ?_; simp -dsimp [allK, hT]; repeat' (first | (refine And.intro ?_ ?_) | (refine sLe.same ?_ ?_ <;> (simp; done)) | (refine sLe.clear ?_ ?_ <;> (first | (simp; done) | (simp; omega))) | (refine sLe.drop 1 ?_ ?_ ?_ <;> (simp; done)))), by simp only; omega⟩
      simp [okAll, okv]
    · have hkn : ¬ (k : Int) < s.ps.length := by omega
      have hke : k = s.ps.length := by omega
      subst hke
      simp -dsimp [hkn]
      repeat' (first | omega | (simp -dsimp [E27, ri, cellp, ints, hkn, prs, tkV_all]) | (refine Also.intro ?_ fun _ => ?_) | (refine Hold.intro fun _ => ?_) | (refine And.intro ?_ ?_))
  · refine awp_loop_g [(6, 2736, 2, 41)] rfl (by simp) [28, 29, 30, 11, 31, 32, 33, 34, 35, 36, 6, 37, 27] (fun k : Fin (s.ps.length + 1) => [(27, (true, .int .i64 (k.1 : Nat))), (6, (true, .bsl 2736 0 k.1))])
      (fun k => hps [(2736, { base := 0, blks := [{ z := 2, els := tkV (fun p => cycV (eaP true p)) s.ps k.1, ty := 41 }] }), (2703, { base := 1, blks := [] })] noH) (fun k => s.ps.length - k.1) ⟨0, by omega⟩ ?_ ?_ ?_
    · simp [okAll, okv]
    · exact (by (try simp -dsimp only [hpush_noH, hpush_hps, hps_over]); refine hle_hps ?_; simp -dsimp [allK, ]; repeat' (first | (refine And.intro ?_ ?_) | (refine sLe.same ?_ ?_ <;> (simp; done)) | (refine sLe.clear ?_ ?_ <;> (first | (simp; done) | (simp; omega))) | (refine sLe.drop 1 ?_ ?_ ?_ <;> (simp; done))))
    rintro ⟨k, hk⟩
    simp only
    by_cases hk1 : k < s.ps.length
    · have hki : (k : Int) < s.ps.length := by omega
      have wk : IntKind.wrap .i64 ((k : Int) + 1) = (k + 1 : Nat) := wrap_id (by omega) (by omega)
      obtain ⟨p, hp, hp'⟩ := get_ex hk1
      have hpt := ptsI_ne (ps := s.ps) (by omega)
      have hT := tkV_succ (fun p => cycV (eaP true p)) hp
      have hTl := tkV_len (fun p => cycV (eaP true p)) (l := s.ps) (k := k) (by omega)
      have hfp : cycV (eaP true p) = [.int .i64 p.hours, .int .i64 p.cycles] := rfl
      simp only [hfp] at hT
      generalize tkV (fun p => cycV (eaP true p)) s.ps k = T at *
      have hb8 : (k + 1) * 16 ≤ 140737488355328 := by omega
      simp -dsimp [hki, hpt]
      repeat' (first | omega | (simp -dsimp [E27, ri, cellp, ints, hki, hk1, hpt, hp, hp', ptI, PS.irow, ptOE_dec, wk, hTl, hb8]) | (refine Also.intro ?_ fun _ => ?_) | (refine Hold.intro fun _ => ?_) | (refine And.intro ?_ ?_))
      refine ⟨⟨k + 1, by omega⟩, tle_chain rfl ?_, (by (try simp -dsimp only [hpush_noH, hpush_hps, hps_over]); refine hle_hps ?_; simp -dsimp [allK, hT]; repeat' (first | (refine And.intro ?_ ?_) | (refine sLe.same ?_ ?_ <;> (simp; done)) | (refine sLe.clear ?_ ?_ <;> (first | (simp; done) | (simp; omega))) | (refine sLe.drop 1 ?_ ?_ ?_ <;> (simp; done)))), by simp only; omega⟩
      simp [okAll, okv]
    · have hkn : ¬ (k : Int) < s.ps.length := by omega
      have hke : k = s.ps.length := by omega
      subst hke
      simp -dsimp [hkn]
      repeat' (first | omega | (simp -dsimp [E27, ri, cellp, ints, hkn, prs, tkV_all]) | (refine Also.intro ?_ fun _ => ?_) | (refine Hold.intro fun _ => ?_) | (refine And.intro ?_ ?_))
theorem ok27 : FnOK Tryz.prog 27 (.pure eachS) := pure_fn (E := E27) rfl (.cons ok18 (.cons ok29 (.cons ok28 .nil))) (ok := []) (fn := Tryz.f27) (by kernel_rfl) (by kernel_rfl) (by kernel_rfl) (by kernel_rfl) rfl (fun _ _ => by simp) b27
noncomputable abbrev usedS : PSpec := mkP rlE RL.Fine fun d => .tup [prs (eaR d.r d.l true), .int .i64 (opE d.r d.l)]
noncomputable abbrev E9 : Env := { P := Tryz.prog, fn := tbl [(27, .pure eachS), (29, .pure used1S)], own := [], key := 900, nt := 11 }
theorem b9 : PureBody E9 [] Tryz.f9 usedS := by
  refine pb ?_
  rintro ⟨r, l⟩ hfn
  simp -dsimp [Tryz.f9, E9, Reg.row]
  repeat' (first | omega | (simp -dsimp [E9, ri, cellp, ints, eaE_dec1, Reg.row, hfn, prs]) | (refine Also.intro ?_ fun _ => ?_) | (refine Hold.intro fun _ => ?_) | (refine And.intro ?_ ?_))
theorem ok9 : FnOK Tryz.prog 9 (.pure usedS) := pure_fn (E := E9) rfl (.cons ok27 (.cons ok29 .nil)) (ok := []) (fn := Tryz.f9) (by kernel_rfl) (by kernel_rfl) (by kernel_rfl) (by kernel_rfl) rfl (fun _ _ => by simp) b9
noncomputable abbrev whereS : PSpec := mkP rlE RL.Fine fun d => .tup [prs (eaR d.r d.l false), .int .i64 (opE d.r d.l)]
noncomputable abbrev E8 : Env := { P := Tryz.prog, fn := tbl [(27, .pure eachS), (28, .pure where1S)], own := [], key := 800, nt := 11 }
theorem b8 : PureBody E8 [] Tryz.f8 whereS := by
  refine pb ?_
  rintro ⟨r, l⟩ hfn
  simp -dsimp [Tryz.f8, E8, Reg.row]
  repeat' (first | omega | (simp -dsimp [E8, ri, cellp, ints, eaE_dec0, Reg.row, hfn, prs]) | (refine Also.intro ?_ fun _ => ?_) | (refine Hold.intro fun _ => ?_) | (refine And.intro ?_ ?_))
theorem ok8 : FnOK Tryz.prog 8 (.pure whereS) := pure_fn (E := E8) rfl (.cons ok27 (.cons ok28 .nil)) (ok := []) (fn := Tryz.f8) (by kernel_rfl) (by kernel_rfl) (by kernel_rfl) (by kernel_rfl) rfl (fun _ _ => by simp) b8
end Go.Sx
end
section
/- Parts: Left, Lacks, Longest, Due. No conditions. -/
set_option linter.unusedSimpArgs false
set_option linter.unusedSectionVars false
set_option maxRecDepth 100000
set_option maxHeartbeats 2000000
namespace Go.Sx
open Go.Proofs
attribute [local irreducible] HLe
attribute [local simp] hps_app

structure RLN where
  r : Reg
  l : List Wk
  n : Int
  deriving Inhabited
@[simp] def rnE (d : RLN) : List V := [.agg d.r.row, .sl 4 (d.l.map Wk.row), .int .i64 d.n]
theorem rnE_inj (a b : RLN) (h : rnE a = rnE b) : a = b := by
  obtain ⟨r, l, n⟩ := a; obtain ⟨r', l', n'⟩ := b
  simp only [rnE, List.cons.injEq, V.agg.injEq, V.sl.injEq, V.int.injEq, true_and, and_true] at h
  rw [Reg.row_inj _ _ h.1, map_inj Wk.row_inj h.2.1, h.2.2]
theorem rnE_dec' (r : Reg) (l : List Wk) (n : Int) : decC rnE [.agg [.sl 3 (r.kinds.map Kd.row), .sl 4 (r.parts.map Pt.row), .int .i64 r.machines, .sl 2 (r.orders.map Od.row)], .sl 4 (l.map Wk.row), .int .i64 n] = ⟨r, l, n⟩ := decC_eq rnE_inj ⟨r, l, n⟩
def RLN.Fine (d : RLN) : Prop := RL.Fine ⟨d.r, d.l⟩
def max0 (x : Int) : Int := if x < 0 then 0 else x
structure LR where
  h : Int
  c : Int
  e : Int
def leftF (r : Reg) (l : List Wk) (n : Int) : LR :=
  if opE r l = 0 then (if (opH r l).i.part n = true then ⟨max0 ((opH r l).i.leftT ((opH r l).ps.getD n.toNat default)), max0 ((opH r l).i.leftC ((opH r l).ps.getD n.toNat default)), 0⟩ else ⟨0, 0, 1⟩) else ⟨0, 0, opE r l⟩
noncomputable abbrev leftFS : PSpec := mkP rnE RLN.Fine fun d => .tup [.int .i64 (leftF d.r d.l d.n).h, .int .i64 (leftF d.r d.l d.n).c, .int .i64 (leftF d.r d.l d.n).e]
def lacksF (r : Reg) (l : List Wk) (m : Int) : List (Int × Int) := if opE r l = 0 then (if (opH r l).i.machine m = true then (opH r l).i.lacks m else []) else []
def lacksE (r : Reg) (l : List Wk) (m : Int) : Int := if opE r l = 0 then (if (opH r l).i.machine m = true then 0 else 1) else opE r l
noncomputable abbrev lacksFS : PSpec := mkP rnE RLN.Fine fun d => .tup [prs (lacksF d.r d.l d.n), .int .i64 (lacksE d.r d.l d.n)]
structure RLM where
  r : Reg
  l : List Wk
  m : Int
  c : Int
  deriving Inhabited
@[simp] def rmE (d : RLM) : List V := [.agg d.r.row, .sl 4 (d.l.map Wk.row), .int .i64 d.m, .int .i64 d.c]
theorem rmE_inj (a b : RLM) (h : rmE a = rmE b) : a = b := by
  obtain ⟨r, l, m, c⟩ := a; obtain ⟨r', l', m', c'⟩ := b
  simp only [rmE, List.cons.injEq, V.agg.injEq, V.sl.injEq, V.int.injEq, true_and, and_true] at h
  rw [Reg.row_inj _ _ h.1, map_inj Wk.row_inj h.2.1, h.2.2.1, h.2.2.2]
theorem rmE_dec' (r : Reg) (l : List Wk) (m c : Int) : decC rmE [.agg [.sl 3 (r.kinds.map Kd.row), .sl 4 (r.parts.map Pt.row), .int .i64 r.machines, .sl 2 (r.orders.map Od.row)], .sl 4 (l.map Wk.row), .int .i64 m, .int .i64 c] = ⟨r, l, m, c⟩ := decC_eq rmE_inj ⟨r, l, m, c⟩
def RLM.Fine (d : RLM) : Prop := RL.Fine ⟨d.r, d.l⟩
def longE (r : Reg) (l : List Wk) (m c : Int) : Int := if opE r l = 0 then (if ((opH r l).i.machine m && withinB c 0 100) = true then (if (opH r l).i.longest m c < 0 then 3 else 0) else 1) else opE r l
def longF (r : Reg) (l : List Wk) (m c : Int) : Int := if longE r l m c = 0 then (opH r l).i.longest m c else 0
noncomputable abbrev longFS : PSpec := mkP rmE RLM.Fine fun d => .tup [.int .i64 (longF d.r d.l d.m d.c), .int .i64 (longE d.r d.l d.m d.c)]
noncomputable abbrev E33 : Env := { P := Tryz.prog, fn := tbl [(18, .pure openS), (21, .pure machineS), (20, .pure withinS), (62, .pure longestS)], own := [], key := 3300, nt := 40 }
theorem b33 : PureBody E33 [] Tryz.f33 longFS := by
  refine pb ?_
  rintro ⟨r, l, m, c⟩ hfn
  have hfn : RL.Fine ⟨r, l⟩ := hfn
  by_cases hE : opE r l = 0
  case neg =>
    have hR : longE r l m c = opE r l := by simp [longE, hE]
    have hR2 : longF r l m c = 0 := by simp [longF, hR, hE]
    simp -dsimp [Tryz.f33, E33, Reg.row]
    repeat' (first | omega | (simp -dsimp [E33, ri, cellp, ints, rlE_dec', Reg.row, hfn, hE, hR, hR2]) | (refine Also.intro ?_ fun _ => ?_) | (refine Hold.intro fun _ => ?_) | (refine And.intro ?_ ?_))
  have hsm := (opE_ok hE).small
  have hfit : ∀ p ∈ (opH r l).i.ps, (opH r l).i.Fit p := (opE_ok hE).fit
  cases hp : (opH r l).i.machine m
  · have hR : longE r l m c = 1 := by simp [longE, hE, hp]
    have hR2 : longF r l m c = 0 := by simp [longF, hR]
    generalize hs : opH r l = s at *
    simp -dsimp [Tryz.f33, E33, Reg.row]
    repeat' (first | omega | (simp -dsimp [E33, ri, cellp, ints, rlE_dec', Reg.row, hfn, hE, hs, HI.v, hiE_dec', hp, hR, hR2]) | (refine Also.intro ?_ fun _ => ?_) | (refine Hold.intro fun _ => ?_) | (refine And.intro ?_ ?_))
  cases hq : withinB c 0 100
  · have hR : longE r l m c = 1 := by simp [longE, hE, hp, hq]
    have hR2 : longF r l m c = 0 := by simp [longF, hR]
    generalize hs : opH r l = s at *
    simp -dsimp [Tryz.f33, E33, Reg.row]
    repeat' (first | omega | (simp -dsimp [E33, ri, cellp, ints, rlE_dec', Reg.row, hfn, hE, hs, HI.v, hiE_dec', hp, hq, hR, hR2]) | (refine Also.intro ?_ fun _ => ?_) | (refine Hold.intro fun _ => ?_) | (refine And.intro ?_ ?_))
  by_cases hn : (opH r l).i.longest m c < 0
  · have hR : longE r l m c = 3 := by simp [longE, hE, hp, hq, hn]
    have hR2 : longF r l m c = 0 := by simp [longF, hR]
    generalize hs : opH r l = s at *
    simp -dsimp [Tryz.f33, E33, Reg.row]
    repeat' (first | omega | (simp -dsimp [E33, ri, cellp, ints, rlE_dec', Reg.row, hfn, hE, hs, HI.v, hiE_dec', hmE_dec', hsm, hfit, hp, hq, hn, hR, hR2]) | (refine Also.intro ?_ fun _ => ?_) | (refine Hold.intro fun _ => ?_) | (refine And.intro ?_ ?_))
  · have hR : longE r l m c = 0 := by simp [longE, hE, hp, hq, hn]
    have hR2 : longF r l m c = (opH r l).i.longest m c := by simp [longF, hR]
    generalize hs : opH r l = s at *
    simp -dsimp [Tryz.f33, E33, Reg.row]
    repeat' (first | omega | (simp -dsimp [E33, ri, cellp, ints, rlE_dec', Reg.row, hfn, hE, hs, HI.v, hiE_dec', hmE_dec', hsm, hfit, hp, hq, hn, hR, hR2]) | (refine Also.intro ?_ fun _ => ?_) | (refine Hold.intro fun _ => ?_) | (refine And.intro ?_ ?_))
theorem ok33 : FnOK Tryz.prog 33 (.pure longFS) := pure_fn (E := E33) rfl (.cons ok18 (.cons ok21 (.cons ok20 (.cons ok62 .nil)))) (ok := []) (fn := Tryz.f33) (by kernel_rfl) (by kernel_rfl) (by kernel_rfl) (by kernel_rfl) rfl (fun _ _ => by simp) b33
end Go.Sx
end
section
/- Parts: the look at the examples. No conditions. -/
set_option linter.unusedSimpArgs false
set_option linter.unusedSectionVars false
set_option maxRecDepth 100000
set_option maxHeartbeats 2000000
namespace Go.Sx
open Go.Proofs
attribute [local irreducible] HLe
attribute [local simp] hps_app

theorem prs_inj {a b : List (Int × Int)} (h : prs a = prs b) : a = b := by
  simp only [prs, V.sl.injEq, true_and] at h; exact cycV_inj h
theorem ints_inj {a b : List Int} (h : ints a = ints b) : a = b := by
  simp only [ints, V.sl.injEq, true_and] at h; exact map_ri_inj h
theorem toPrs_rows (l : List (Int × Int)) : (V.sl 2 (l.map cycV)).toPrs = l := toPrs_prs l
def exR : Reg := { kinds := [⟨100, 50, 1⟩, ⟨1000, 1000, 2⟩], parts := [⟨0, 90, 10, true⟩, ⟨0, 0, 0, true⟩, ⟨1, 0, 0, true⟩, ⟨1, 0, 0, true⟩], machines := 1, orders := [⟨1, 5⟩] }
def exL : List Wk := [⟨2, 0, 0, 0⟩, ⟨2, 2, 0, 0⟩, ⟨2, 3, 0, 1⟩, ⟨1, 0, 4, 3⟩]
theorem ex_e : longE exR exL 0 2 = 0 := by decide +kernel
theorem ex_f : longF exR exL 0 2 = 6 := by decide +kernel
noncomputable abbrev exS : PSpec := mkP (D := Unit) (fun _ => []) (fun _ => True) fun _ => .tup [.agg [.sl 3 (exR.kinds.map Kd.row), .sl 4 (exR.parts.map Pt.row), .int .i64 exR.machines, .sl 2 (exR.orders.map Od.row)], .sl 4 (exL.map Wk.row)]
noncomputable abbrev E32 : Env := { P := Tryz.prog, fn := tbl [], own := [], key := 3200, nt := 20 }
theorem b32 : PureBody E32 [] Tryz.f32 exS := by
  refine pb ?_
  rintro _ _
  simp -dsimp [Tryz.f32, E32]
  repeat' (first | omega | (simp -dsimp [E32, ri, cellp, ints, exR, exL, Kd.row, Pt.row, Od.row, Wk.row]) | (refine Also.intro ?_ fun _ => ?_) | (refine Hold.intro fun _ => ?_) | (refine And.intro ?_ ?_))
theorem ok32 : FnOK Tryz.prog 32 (.pure exS) := pure_fn (E := E32) rfl LOK.nil (ok := []) (fn := Tryz.f32) (by kernel_rfl) (by kernel_rfl) (by kernel_rfl) (by kernel_rfl) rfl (fun _ _ => by simp) b32
def exC : List Int := [0, 5, 2, 4, 1, 6, 0]
theorem exC_e : serE exC = 0 := by decide +kernel
theorem exC_c : cycles exC = [(2, 2), (4, 2), (6, 1), (6, 1)] := by decide +kernel
noncomputable abbrev worksS : PSpec := mkP (D := Unit) (fun _ => []) (fun _ => True) fun _ => .bool true
noncomputable abbrev E12 : Env := { P := Tryz.prog, fn := tbl [(32, .pure exS), (33, .pure longFS), (34, .pure CyclesS), (35, .pure samePS)], own := [], key := 1200, nt := 41 }
theorem b12 : PureBody E12 [] Tryz.f12 worksS := by
  refine pb ?_
  rintro _ _
  have f1 : RLM.Fine ⟨exR, exL, 0, 2⟩ := by refine ⟨?_, ?_, ?_, ?_⟩ <;> decide +kernel
  have e1 := ex_e
  have e2 := ex_f
  have e3 := exC_e
  have e4 := exC_c
  simp only [exC] at e3 e4
  simp -dsimp [Tryz.f12, E12]
  repeat' (first | omega | (simp -dsimp [E12, ri, cellp, ints, rmE_dec', f1, e1, e2, e3, e4, V.toInts, V.rows, rowInt, V.toPrs, cycV, cycOf, V.toInt, prs]) | (refine Also.intro ?_ fun _ => ?_) | (refine Hold.intro fun _ => ?_) | (refine And.intro ?_ ?_))
theorem ok12 : FnOK Tryz.prog 12 (.pure worksS) := pure_fn (E := E12) rfl (.cons ok32 (.cons ok33 (.cons ok34 (.cons ok35 .nil)))) (ok := []) (fn := Tryz.f12) (by kernel_rfl) (by kernel_rfl) (by kernel_rfl) (by kernel_rfl) rfl (fun _ _ => by simp) b12
end Go.Sx
end
