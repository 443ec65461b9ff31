/- A part of a proof; no conditions. -/
import Derived.Test.YtnpdjaikmdagmaaDoorP15
set_option linter.unusedSimpArgs false
set_option linter.unusedVariables false
set_option linter.unusedSectionVars false
section
/- Parts: whether a register is valid. No conditions. -/
set_option linter.unusedSimpArgs false
set_option linter.unusedSectionVars false
set_option maxRecDepth 100000
set_option maxHeartbeats 1000000
namespace Go.Sx
open Go.Proofs
attribute [local irreducible] HLe
attribute [local simp] hps_app

def Reg.kindOk (r : Reg) (n : Int) : Bool := withinB n 0 (wsub r.kinds.length 1)
def Kd.bad (k : Kd) : Bool := !withinB k.hours 1 100000 || !withinB k.cycles 1 100000 || !withinB k.places 0 4
def Reg.badP (r : Reg) (p : Pt) : Bool := !r.kindOk p.kind || !withinB p.hours 0 100000 || !withinB p.cycles 0 100000
def Reg.badO (r : Reg) (o : Od) : Bool := !r.kindOk o.kind || !withinB o.within 0 100000
def regI (r : Reg) : V := .ip 4 [r.row] 0 0
@[simp] def kkE (d : Reg × Int) : List V := [.int .i64 d.2, regI d.1]
theorem kkE_inj (a b : Reg × Int) (h : kkE a = kkE b) : a = b := by
  simp only [kkE, regI, List.cons.injEq, V.int.injEq, V.ip.injEq, true_and, and_true] at h
  exact Prod.ext (Reg.row_inj _ _ h.2) h.1
theorem kkE_dec (r : Reg) (n : Int) : decC kkE [.int .i64 n, .ip 4 [[.sl 3 (r.kinds.map Kd.row), .sl 4 (r.parts.map Pt.row), .int .i64 r.machines, .sl 2 (r.orders.map Od.row)]] 0 0] = (r, n) := decC_eq kkE_inj (r, n)
noncomputable abbrev kkS : PSpec := mkP kkE (fun _ => True) fun d => .bool (d.1.kindOk d.2)
noncomputable abbrev E87 : Env := { P := Tryd.prog, fn := tbl [(37, .pure withinS)], own := [], key := 8700, nt := 10 }
theorem b87 : PureBody E87 [] Tryd.f87 kkS := by
  refine pb ?_
  rintro ⟨r, n⟩ _
  simp -dsimp [Tryd.f87, E87, regI, Reg.row, Reg.kindOk, wsub]
  repeat' (first | omega | (simp -dsimp [E87, ri, cellp, ints, Reg.kindOk, wsub]) | (refine Also.intro ?_ fun _ => ?_) | (refine Hold.intro fun _ => ?_) | (refine And.intro ?_ ?_))
theorem ok87 : FnOK Tryd.prog 87 (.pure kkS) := pure_fn (E := E87) rfl (.cons ok37 .nil) (ok := []) (fn := Tryd.f87) (by kernel_rfl) (by kernel_rfl) (by kernel_rfl) (by kernel_rfl) rfl (fun _ _ => by simp) b87
@[simp] def kdE (d : Kd) : List V := [.agg d.row]
theorem kdE_inj (a b : Kd) (h : kdE a = kdE b) : a = b := Kd.row_inj _ _ (by simpa using h)
theorem kdE_dec (k : Kd) : decC kdE [.agg [.int .i64 k.hours, .int .i64 k.cycles, .int .i64 k.places]] = k := decC_eq kdE_inj k
noncomputable abbrev kdS : PSpec := mkP kdE (fun _ => True) fun d => .bool d.bad
noncomputable abbrev E89 : Env := { P := Tryd.prog, fn := tbl [(37, .pure withinS)], own := [], key := 8900, nt := 19 }
theorem b89 : PureBody E89 [] Tryd.f89 kdS := by
  refine pb ?_
  rintro k _
  simp -dsimp [Tryd.f89, E89, Kd.row, Kd.bad]
theorem ok89 : FnOK Tryd.prog 89 (.pure kdS) := pure_fn (E := E89) rfl (.cons ok37 .nil) (ok := []) (fn := Tryd.f89) (by kernel_rfl) (by kernel_rfl) (by kernel_rfl) (by kernel_rfl) rfl (fun _ _ => by simp) b89
@[simp] def kdsE (d : List Kd) : List V := [.sl 3 (d.map Kd.row), .fn 89 []]
theorem kdsE_inj (a b : List Kd) (h : kdsE a = kdsE b) : a = b := map_inj Kd.row_inj (by simpa using h)
theorem kdsE_dec (l : List Kd) : decC kdsE [.sl 3 (l.map Kd.row), .fn 89 []] = l := decC_eq kdsE_inj l
noncomputable abbrev kdsS : PSpec := mkP kdsE (fun d => d.length ≤ 1000000) fun d => .int .i64 (idxZ d Kd.bad)
noncomputable abbrev E117 : Env := { P := Tryd.prog, fn := tbl [(89, .pure kdS)], own := [], key := 11700, nt := 19 }
theorem b117 : PureBody E117 [] Tryd.f117 kdsS := by
  refine pb ?_
  rintro l hl
  simp -dsimp [Tryd.f117, E117]
  refine awp_loop [9, 10, 5, 11, 12, 13, 14, 15, 16, 17, 4, 18, 8] (fun k : { k : Nat // k ≤ l.length ∧ ∀ j (h : j < l.length), j < k → l[j].bad = false } => [(8, (true, .int .i64 k.1))]) (fun _ => noH) (fun k => l.length - k.1) ⟨0, by omega, fun _ _ h => by omega⟩ ?_ (HLe.refl _) ?_
  · simp [okAll, okv]
  rintro ⟨k, hk, hall⟩
  by_cases hk1 : k < l.length
  · have hki : (k : Int) < l.length := by omega
    have wk : IntKind.wrap .i64 ((k : Int) + 1) = (k + 1 : Nat) := wrap_id (by omega) (by omega)
    cases hw : l[k].bad
    · simp -dsimp [hki]
      repeat' (first | omega | (simp -dsimp [E117, ri, cellp, ints, hki, hk1, hl, hw, wk, Kd.row, kdE_dec]) | (refine Also.intro ?_ fun _ => ?_) | (refine Hold.intro fun _ => ?_) | (refine And.intro ?_ ?_))
      refine ⟨k + 1, tle_chain rfl ?_, HLe.refl _, ⟨by omega, fun j h hj => ?_⟩, by omega⟩
      · simp [okAll, okv]
      · by_cases hjk : j = k
        · subst hjk; exact hw
        · exact hall j h (by omega)
    · have hz := idxZ_at l Kd.bad hk1 hw hall
      simp -dsimp [hki]
      repeat' (first | omega | (simp -dsimp [E117, ri, cellp, ints, hki, hk1, hl, hw, wk, hz, Kd.row, kdE_dec]) | (refine Also.intro ?_ fun _ => ?_) | (refine Hold.intro fun _ => ?_) | (refine And.intro ?_ ?_))
  · have hkn : ¬ (k : Int) < l.length := by omega
    have hz := idxZ_none l Kd.bad (fun j h => hall j h (by omega))
    simp -dsimp [hkn]
    repeat' (first | omega | (simp -dsimp [E117, ri, cellp, ints, hkn, hz]) | (refine Also.intro ?_ fun _ => ?_) | (refine Hold.intro fun _ => ?_) | (refine And.intro ?_ ?_))
theorem ok117 : FnOK Tryd.prog 117 (.pure kdsS) := pure_fn (E := E117) rfl (.cons ok89 .nil) (ok := []) (fn := Tryd.f117) (by kernel_rfl) (by kernel_rfl) (by kernel_rfl) (by kernel_rfl) rfl (fun _ _ => by simp) b117
noncomputable abbrev kdcS : PSpec := mkP kdsE (fun d => d.length ≤ 1000000) fun d => .bool (d.any Kd.bad)
noncomputable abbrev E88 : Env := { P := Tryd.prog, fn := tbl [(117, .pure kdsS)], own := [], key := 8800, nt := 9 }
theorem b88 : PureBody E88 [] Tryd.f88 kdcS := by
  refine pb ?_
  rintro l hl
  have hz := idxZ_any l Kd.bad
  simp -dsimp [Tryd.f88, E88]
  repeat' (first | omega | (simp -dsimp [E88, ri, cellp, ints, hl, kdsE_dec, hz]) | (refine Also.intro ?_ fun _ => ?_) | (refine Hold.intro fun _ => ?_) | (refine And.intro ?_ ?_))
theorem ok88 : FnOK Tryd.prog 88 (.pure kdcS) := pure_fn (E := E88) rfl (.cons ok117 .nil) (ok := []) (fn := Tryd.f88) (by kernel_rfl) (by kernel_rfl) (by kernel_rfl) (by kernel_rfl) rfl (fun _ _ => by simp) b88
/-! the register and the function that looks at it, in the heap -/
def vlL (r : Reg) : List (Nat × Site) := [(5901, { base := 0, blks := [{ z := 4, els := [r.row], ty := 43 }] }), (5903, { base := 0, blks := [{ z := 1, els := [[.fn 87 [.bptr 5901 0 1 0 0]]], ty := 23, cl := false }] })]
theorem vlL_keys (r : Reg) : (vlL r).map (·.1) = [5901, 5903] := rfl
theorem vlL_inj (r r' : Reg) (h : ∀ k ∈ [5901, 5903], hps (vlL r) noH k = hps (vlL r') noH k) : r = r' := by
  have h1 := congrArg Site.blks (h 5901 (by simp))
  simp only [vlL, hps_cons] at h1
  exact Reg.row_inj _ _ (by simpa using h1)
section
variable (s : Reg) (h : Hp)
@[simp] theorem v5901 : Ob vlL s h 5901 = { base := 0, blks := [{ z := 4, els := [[.sl 3 (s.kinds.map Kd.row), .sl 4 (s.parts.map Pt.row), .int .i64 s.machines, .sl 2 (s.orders.map Od.row)]], ty := 43 }] } := rfl
@[simp] theorem v5903 : Ob vlL s h 5903 = { base := 0, blks := [{ z := 1, els := [[.fn 87 [.bptr 5901 0 1 0 0]]], ty := 23, cl := false }] } := rfl
@[simp] theorem v_ne {k : Nat} (hn : [5901, 5903].contains k = false) : Ob vlL s h k = h k := ob_ne vlL_keys hn
@[simp] theorem v_v (s' : Reg) : Ob vlL s (Ob vlL s' h) = Ob vlL s h := ob_ob vlL_keys _ _ _
@[simp] theorem v_hget (k i : Nat) : hget (Ob vlL s h) k i = if i < (Ob vlL s h k).base then none else (Ob vlL s h k).blks[i - (Ob vlL s h k).base]? := rfl
@[simp] theorem v_hnext (k : Nat) : hnext (Ob vlL s h) k = (Ob vlL s h k).base + (Ob vlL s h k).blks.length := rfl
@[simp] theorem v_hpush {k : Nat} (hn : [5901, 5903].contains k = false) (B : Blk) : hpush (Ob vlL s h) k B = Ob vlL s (hpush h k B) := ob_hpush vlL_keys hn B
@[simp] theorem v_over {k : Nat} {S : Site} {L : List (Nat × Site)} (hn : (((k, S) :: L).all fun p => ![5901, 5903].contains p.1) = true) : hps ((k, S) :: L) (Ob vlL s h) = Ob vlL s (hps ((k, S) :: L) h) := ob_over vlL_keys hn
end
@[simp] def ptE (r : Reg) (p : Pt) : List V := [.agg p.row, .bptr 5903 0 1 0 0]
noncomputable abbrev ptS : HSpec := obS vlL [5901, 5903] ptE (fun _ _ h => Blank [9102] h) (fun r p _ => .bool (r.badP p)) (fun r _ => r) fun _ _ h => bmp [9102] 1 h
theorem pt_go (r : Reg) (p : Pt) (h : Hp) : ptS.go [.agg p.row, .bptr 5903 0 1 0 0] (Ob vlL r h) = ⟨Blank [9102] (Ob vlL r h), .bool (r.badP p), Ob vlL r (bmp [9102] 1 (Ob vlL r h))⟩ :=
  obS_go vlL_keys vlL_inj (fun s d d' h => Pt.row_inj _ _ (by simpa using h)) r p h
noncomputable abbrev E91 : Env := { P := Tryd.prog, fn := tbl [(37, .pure withinS), (87, .pure kkS)], own := [], key := 9100, nt := 21 }
theorem b91 : HeapBody E91 [] Tryd.f91 ptS := by
  intro args h hc
  obtain ⟨r, p, hh, rfl, hp, hgo⟩ := obS_inv vlL_keys hc
  rw [hgo]
  clear hgo hc
  obtain ⟨h0, rfl⟩ : ∃ h0, h = Ob vlL r h0 := ⟨h, hh⟩
  clear hh
  have hb : h0 9102 = { base := (h0 9102).base, blks := [] } := by simpa [Blank] using hp
  clear hp
  have hh0 : h0 = hps [(9102, { base := (h0 9102).base, blks := [] })] h0 := Blank.self (own := [9102]) (by simpa [Blank] using hb)
  clear hb
  generalize (h0 9102).base = b at hh0
  rw [hh0]
  clear hh0
  simp -dsimp [Tryd.f91, E91, Pt.row, bmp, Reg.badP]
  cases h1 : r.kindOk p.kind <;> cases h2 : withinB p.hours 0 100000 <;> cases h3 : withinB p.cycles 0 100000 <;> repeat' (first | omega | (simp -dsimp [E91, ri, cellp, ints, h1, h2, h3, Pt.row, kkE_dec, regI, Reg.row]) | (refine Also.intro ?_ fun _ => ?_) | (refine Hold.intro fun _ => ?_) | (refine And.intro ?_ ?_))
  all_goals exact (by (try simp -dsimp only [hpush_hps, hps_app, List.cons_append, List.nil_append, hps_over]); refine ob_hle ?_; simp -dsimp [allK, ]; repeat' (first | (refine And.intro ?_ ?_) | (refine sLe.same ?_ ?_ <;> (simp; done)) | (refine sLe.clear ?_ ?_ <;> (first | (simp; done) | (simp; omega))) | (refine sLe.drop 1 ?_ ?_ ?_ <;> (simp; done))))
theorem ok91 : FnOK Tryd.prog 91 (.heap ptS) := heap_fn (E := E91) rfl (.cons ok37 (.cons ok87 .nil)) (ok := []) (fn := Tryd.f91) (by kernel_rfl) (by kernel_rfl) (by kernel_rfl) (by kernel_rfl) rfl (fun args h hc => by obtain ⟨_, _, _, rfl, _⟩ := obS_inv vlL_keys hc; simp) b91
@[simp] def ptsE (r : Reg) (d : List Pt) : List V := [.sl 4 (d.map Pt.row), .fn 91 [.bptr 5903 0 1 0 0]]
noncomputable abbrev ptsS : HSpec := obS vlL [5901, 5903] ptsE (fun _ d h => Blank [9102] h ∧ d.length ≤ 1000000) (fun r d _ => .int .i64 (idxZ d r.badP)) (fun r _ => r) fun _ d h => bmp [9102] d.length h
theorem pts_go (r : Reg) (d : List Pt) (h : Hp) : ptsS.go [.sl 4 (d.map Pt.row), .fn 91 [.bptr 5903 0 1 0 0]] (Ob vlL r h) = ⟨Blank [9102] (Ob vlL r h) ∧ d.length ≤ 1000000, .int .i64 (idxZ d r.badP), Ob vlL r (bmp [9102] d.length (Ob vlL r h))⟩ :=
  obS_go vlL_keys vlL_inj (fun s d d' h => map_inj Pt.row_inj (by simpa using h)) r d h
theorem pt_go' (r : Reg) (p : Pt) (h : Hp) : ptS.go [.agg [.int .i64 p.kind, .int .i64 p.hours, .int .i64 p.cycles, .bool p.known], .bptr 5903 0 1 0 0] (Ob vlL r h) = ⟨Blank [9102] (Ob vlL r h), .bool (r.badP p), Ob vlL r (bmp [9102] 1 (Ob vlL r h))⟩ := pt_go r p h
noncomputable abbrev E118 : Env := { P := Tryd.prog, fn := tbl [(91, .heap ptS)], own := [], key := 11800, nt := 19 }
theorem b118 : HeapBody E118 [] Tryd.f118 ptsS := by
  intro args h hc
  obtain ⟨r, l, hh, rfl, ⟨hp, hl⟩, hgo⟩ := obS_inv vlL_keys hc
  rw [hgo]
  clear hgo hc
  obtain ⟨h0, rfl⟩ : ∃ h0, h = Ob vlL r h0 := ⟨h, hh⟩
  clear hh
  have hb : h0 9102 = { base := (h0 9102).base, blks := [] } := by simpa [Blank] using hp
  clear hp
  have hh0 : h0 = hps [(9102, { base := (h0 9102).base, blks := [] })] h0 := Blank.self (own := [9102]) (by simpa [Blank] using hb)
  clear hb
  generalize (h0 9102).base = b at hh0
  rw [hh0]
  clear hh0
  simp -dsimp [Tryd.f118, E118, bmp]
  refine awp_loop [9, 10, 5, 11, 12, 13, 14, 15, 16, 17, 4, 18, 8] (fun k : { k : Nat // k ≤ l.length ∧ ∀ j (h : j < l.length), j < k → r.badP l[j] = false } => [(8, (true, .int .i64 k.1))]) (fun k => Ob vlL r (hps [(9102, { base := b + k.1, blks := [] })] h0)) (fun k => l.length - k.1) ⟨0, by omega, fun _ _ h => by omega⟩ ?_ (HLe.refl _) ?_
  · simp [okAll, okv]
  rintro ⟨k, hk, hall⟩
  by_cases hk1 : k < l.length
  · have hki : (k : Int) < l.length := by omega
    have wk : IntKind.wrap .i64 ((k : Int) + 1) = (k + 1 : Nat) := wrap_id (by omega) (by omega)
    cases hw : r.badP l[k]
    · simp -dsimp [hki]
      repeat' (first | omega | (simp -dsimp [E118, ri, cellp, ints, hki, hk1, hl, hw, wk, Pt.row, pt_go', Blank, bmp]) | (refine Also.intro ?_ fun _ => ?_) | (refine Hold.intro fun _ => ?_) | (refine And.intro ?_ ?_))
      refine ⟨k + 1, tle_chain rfl ?_, (by (try simp -dsimp only [hpush_hps, hps_app, List.cons_append, List.nil_append, hps_over]); refine ob_hle ?_; simp -dsimp [allK, ]; repeat' (first | (refine And.intro ?_ ?_) | (refine sLe.same ?_ ?_ <;> (simp; done)) | (refine sLe.clear ?_ ?_ <;> (first | (simp; done) | (simp; omega))) | (refine sLe.drop 1 ?_ ?_ ?_ <;> (simp; done)))), ⟨by omega, fun j h hj => ?_⟩, by omega⟩
      · simp [okAll, okv]
      · by_cases hjk : j = k
        · subst hjk; exact hw
        · exact hall j h (by omega)
    · have hz := idxZ_at l r.badP hk1 hw hall
      simp -dsimp [hki]
      repeat' (first | omega | (simp -dsimp [E118, ri, cellp, ints, hki, hk1, hl, hw, wk, hz, Pt.row, pt_go', Blank, bmp]) | (refine Also.intro ?_ fun _ => ?_) | (refine Hold.intro fun _ => ?_) | (refine And.intro ?_ ?_))
      exact (by (try simp -dsimp only [hpush_hps, hps_app, List.cons_append, List.nil_append, hps_over]); refine ob_hle ?_; simp -dsimp [allK, ]; repeat' (first | (refine And.intro ?_ ?_) | (refine sLe.same ?_ ?_ <;> (simp; done)) | (refine sLe.clear ?_ ?_ <;> (first | (simp; done) | (simp; omega))) | (refine sLe.drop 1 ?_ ?_ ?_ <;> (simp; done))))
  · have hkn : ¬ (k : Int) < l.length := by omega
    have hz := idxZ_none l r.badP (fun j h => hall j h (by omega))
    simp -dsimp [hkn]
    repeat' (first | omega | (simp -dsimp [E118, ri, cellp, ints, hkn, hz]) | (refine Also.intro ?_ fun _ => ?_) | (refine Hold.intro fun _ => ?_) | (refine And.intro ?_ ?_))
    exact (by (try simp -dsimp only [hpush_hps, hps_app, List.cons_append, List.nil_append, hps_over]); refine ob_hle ?_; simp -dsimp [allK, ]; repeat' (first | (refine And.intro ?_ ?_) | (refine sLe.same ?_ ?_ <;> (simp; done)) | (refine sLe.clear ?_ ?_ <;> (first | (simp; done) | (simp; omega))) | (refine sLe.drop 1 ?_ ?_ ?_ <;> (simp; done))))
theorem ok118 : FnOK Tryd.prog 118 (.heap ptsS) := heap_fn (E := E118) rfl (.cons ok91 .nil) (ok := []) (fn := Tryd.f118) (by kernel_rfl) (by kernel_rfl) (by kernel_rfl) (by kernel_rfl) rfl (fun args h hc => by obtain ⟨_, _, _, rfl, _⟩ := obS_inv vlL_keys hc; simp) b118
noncomputable abbrev ptcS : HSpec := obS vlL [5901, 5903] ptsE (fun _ d h => Blank [9102] h ∧ d.length ≤ 1000000) (fun r d _ => .bool (d.any r.badP)) (fun r _ => r) fun _ d h => bmp [9102] d.length h
theorem ptc_go (r : Reg) (d : List Pt) (h : Hp) : ptcS.go [.sl 4 (d.map Pt.row), .fn 91 [.bptr 5903 0 1 0 0]] (Ob vlL r h) = ⟨Blank [9102] (Ob vlL r h) ∧ d.length ≤ 1000000, .bool (d.any r.badP), Ob vlL r (bmp [9102] d.length (Ob vlL r h))⟩ :=
  obS_go vlL_keys vlL_inj (fun s d d' h => map_inj Pt.row_inj (by simpa using h)) r d h
noncomputable abbrev E90 : Env := { P := Tryd.prog, fn := tbl [(118, .heap ptsS)], own := [], key := 9000, nt := 9 }
theorem b90 : HeapBody E90 [] Tryd.f90 ptcS := by
  intro args h hc
  obtain ⟨r, l, hh, rfl, ⟨hp, hl⟩, hgo⟩ := obS_inv vlL_keys hc
  rw [hgo]
  clear hgo hc
  obtain ⟨h0, rfl⟩ : ∃ h0, h = Ob vlL r h0 := ⟨h, hh⟩
  clear hh
  have hz := idxZ_any l r.badP
  have hb : h0 9102 = { base := (h0 9102).base, blks := [] } := by simpa [Blank] using hp
  have hp' : Blank [9102] (Ob vlL r h0) := hp
  simp -dsimp [Tryd.f90, E90, bmp]
  repeat' (first | omega | (simp -dsimp [E90, ri, cellp, ints, pts_go, hp', hl, hz, bmp, hle_refl]) | (refine Also.intro ?_ fun _ => ?_) | (refine Hold.intro fun _ => ?_) | (refine And.intro ?_ ?_))
theorem ok90 : FnOK Tryd.prog 90 (.heap ptcS) := heap_fn (E := E90) rfl (.cons ok118 .nil) (ok := []) (fn := Tryd.f90) (by kernel_rfl) (by kernel_rfl) (by kernel_rfl) (by kernel_rfl) rfl (fun args h hc => by obtain ⟨_, _, _, rfl, _⟩ := obS_inv vlL_keys hc; simp) b90
@[simp] def odE (r : Reg) (p : Od) : List V := [.agg p.row, .bptr 5903 0 1 0 0]
noncomputable abbrev odS : HSpec := obS vlL [5901, 5903] odE (fun _ _ h => Blank [9302] h) (fun r p _ => .bool (r.badO p)) (fun r _ => r) fun _ _ h => bmp [9302] 1 h
theorem od_go (r : Reg) (p : Od) (h : Hp) : odS.go [.agg p.row, .bptr 5903 0 1 0 0] (Ob vlL r h) = ⟨Blank [9302] (Ob vlL r h), .bool (r.badO p), Ob vlL r (bmp [9302] 1 (Ob vlL r h))⟩ :=
  obS_go vlL_keys vlL_inj (fun s d d' h => Od.row_inj _ _ (by simpa using h)) r p h
noncomputable abbrev E93 : Env := { P := Tryd.prog, fn := tbl [(37, .pure withinS), (87, .pure kkS)], own := [], key := 9300, nt := 15 }
theorem b93 : HeapBody E93 [] Tryd.f93 odS := by
  intro args h hc
  obtain ⟨r, p, hh, rfl, hp, hgo⟩ := obS_inv vlL_keys hc
  rw [hgo]
  clear hgo hc
  obtain ⟨h0, rfl⟩ : ∃ h0, h = Ob vlL r h0 := ⟨h, hh⟩
  clear hh
  have hb : h0 9302 = { base := (h0 9302).base, blks := [] } := by simpa [Blank] using hp
  clear hp
  have hh0 : h0 = hps [(9302, { base := (h0 9302).base, blks := [] })] h0 := Blank.self (own := [9302]) (by simpa [Blank] using hb)
  clear hb
  generalize (h0 9302).base = b at hh0
  rw [hh0]
  clear hh0
  simp -dsimp [Tryd.f93, E93, Od.row, bmp, Reg.badO]
  cases h1 : r.kindOk p.kind <;> cases h2 : withinB p.within 0 100000 <;> repeat' (first | omega | (simp -dsimp [E93, ri, cellp, ints, h1, h2, Od.row, kkE_dec, regI, Reg.row]) | (refine Also.intro ?_ fun _ => ?_) | (refine Hold.intro fun _ => ?_) | (refine And.intro ?_ ?_))
  all_goals exact (by (try simp -dsimp only [hpush_hps, hps_app, List.cons_append, List.nil_append, hps_over]); refine ob_hle ?_; simp -dsimp [allK, ]; repeat' (first | (refine And.intro ?_ ?_) | (refine sLe.same ?_ ?_ <;> (simp; done)) | (refine sLe.clear ?_ ?_ <;> (first | (simp; done) | (simp; omega))) | (refine sLe.drop 1 ?_ ?_ ?_ <;> (simp; done))))
theorem ok93 : FnOK Tryd.prog 93 (.heap odS) := heap_fn (E := E93) rfl (.cons ok37 (.cons ok87 .nil)) (ok := []) (fn := Tryd.f93) (by kernel_rfl) (by kernel_rfl) (by kernel_rfl) (by kernel_rfl) rfl (fun args h hc => by obtain ⟨_, _, _, rfl, _⟩ := obS_inv vlL_keys hc; simp) b93
@[simp] def odsE (r : Reg) (d : List Od) : List V := [.sl 2 (d.map Od.row), .fn 93 [.bptr 5903 0 1 0 0]]
noncomputable abbrev odsS : HSpec := obS vlL [5901, 5903] odsE (fun _ d h => Blank [9302] h ∧ d.length ≤ 1000000) (fun r d _ => .int .i64 (idxZ d r.badO)) (fun r _ => r) fun _ d h => bmp [9302] d.length h
theorem ods_go (r : Reg) (d : List Od) (h : Hp) : odsS.go [.sl 2 (d.map Od.row), .fn 93 [.bptr 5903 0 1 0 0]] (Ob vlL r h) = ⟨Blank [9302] (Ob vlL r h) ∧ d.length ≤ 1000000, .int .i64 (idxZ d r.badO), Ob vlL r (bmp [9302] d.length (Ob vlL r h))⟩ :=
  obS_go vlL_keys vlL_inj (fun s d d' h => map_inj Od.row_inj (by simpa using h)) r d h
theorem od_go' (r : Reg) (p : Od) (h : Hp) : odS.go [.agg [.int .i64 p.kind, .int .i64 p.within], .bptr 5903 0 1 0 0] (Ob vlL r h) = ⟨Blank [9302] (Ob vlL r h), .bool (r.badO p), Ob vlL r (bmp [9302] 1 (Ob vlL r h))⟩ := od_go r p h
noncomputable abbrev E119 : Env := { P := Tryd.prog, fn := tbl [(93, .heap odS)], own := [], key := 11900, nt := 19 }
theorem b119 : HeapBody E119 [] Tryd.f119 odsS := by
  intro args h hc
  obtain ⟨r, l, hh, rfl, ⟨hp, hl⟩, hgo⟩ := obS_inv vlL_keys hc
  rw [hgo]
  clear hgo hc
  obtain ⟨h0, rfl⟩ : ∃ h0, h = Ob vlL r h0 := ⟨h, hh⟩
  clear hh
  have hb : h0 9302 = { base := (h0 9302).base, blks := [] } := by simpa [Blank] using hp
  clear hp
  have hh0 : h0 = hps [(9302, { base := (h0 9302).base, blks := [] })] h0 := Blank.self (own := [9302]) (by simpa [Blank] using hb)
  clear hb
  generalize (h0 9302).base = b at hh0
  rw [hh0]
  clear hh0
  simp -dsimp [Tryd.f119, E119, bmp]
  refine awp_loop [9, 10, 5, 11, 12, 13, 14, 15, 16, 17, 4, 18, 8] (fun k : { k : Nat // k ≤ l.length ∧ ∀ j (h : j < l.length), j < k → r.badO l[j] = false } => [(8, (true, .int .i64 k.1))]) (fun k => Ob vlL r (hps [(9302, { base := b + k.1, blks := [] })] h0)) (fun k => l.length - k.1) ⟨0, by omega, fun _ _ h => by omega⟩ ?_ (HLe.refl _) ?_
  · simp [okAll, okv]
  rintro ⟨k, hk, hall⟩
  by_cases hk1 : k < l.length
  · have hki : (k : Int) < l.length := by omega
    have wk : IntKind.wrap .i64 ((k : Int) + 1) = (k + 1 : Nat) := wrap_id (by omega) (by omega)
    cases hw : r.badO l[k]
    · simp -dsimp [hki]
      repeat' (first | omega | (simp -dsimp [E119, ri, cellp, ints, hki, hk1, hl, hw, wk, Od.row, od_go', Blank, bmp]) | (refine Also.intro ?_ fun _ => ?_) | (refine Hold.intro fun _ => ?_) | (refine And.intro ?_ ?_))
      refine ⟨k + 1, tle_chain rfl ?_, (by (try simp -dsimp only [hpush_hps, hps_app, List.cons_append, List.nil_append, hps_over]); refine ob_hle ?_; simp -dsimp [allK, ]; repeat' (first | (refine And.intro ?_ ?_) | (refine sLe.same ?_ ?_ <;> (simp; done)) | (refine sLe.clear ?_ ?_ <;> (first | (simp; done) | (simp; omega))) | (refine sLe.drop 1 ?_ ?_ ?_ <;> (simp; done)))), ⟨by omega, fun j h hj => ?_⟩, by omega⟩
      · simp [okAll, okv]
      · by_cases hjk : j = k
        · subst hjk; exact hw
        · exact hall j h (by omega)
    · have hz := idxZ_at l r.badO hk1 hw hall
      simp -dsimp [hki]
      repeat' (first | omega | (simp -dsimp [E119, ri, cellp, ints, hki, hk1, hl, hw, wk, hz, Od.row, od_go', Blank, bmp]) | (refine Also.intro ?_ fun _ => ?_) | (refine Hold.intro fun _ => ?_) | (refine And.intro ?_ ?_))
      exact (by (try simp -dsimp only [hpush_hps, hps_app, List.cons_append, List.nil_append, hps_over]); refine ob_hle ?_; simp -dsimp [allK, ]; repeat' (first | (refine And.intro ?_ ?_) | (refine sLe.same ?_ ?_ <;> (simp; done)) | (refine sLe.clear ?_ ?_ <;> (first | (simp; done) | (simp; omega))) | (refine sLe.drop 1 ?_ ?_ ?_ <;> (simp; done))))
  · have hkn : ¬ (k : Int) < l.length := by omega
    have hz := idxZ_none l r.badO (fun j h => hall j h (by omega))
    simp -dsimp [hkn]
    repeat' (first | omega | (simp -dsimp [E119, ri, cellp, ints, hkn, hz]) | (refine Also.intro ?_ fun _ => ?_) | (refine Hold.intro fun _ => ?_) | (refine And.intro ?_ ?_))
    exact (by (try simp -dsimp only [hpush_hps, hps_app, List.cons_append, List.nil_append, hps_over]); refine ob_hle ?_; simp -dsimp [allK, ]; repeat' (first | (refine And.intro ?_ ?_) | (refine sLe.same ?_ ?_ <;> (simp; done)) | (refine sLe.clear ?_ ?_ <;> (first | (simp; done) | (simp; omega))) | (refine sLe.drop 1 ?_ ?_ ?_ <;> (simp; done))))
theorem ok119 : FnOK Tryd.prog 119 (.heap odsS) := heap_fn (E := E119) rfl (.cons ok93 .nil) (ok := []) (fn := Tryd.f119) (by kernel_rfl) (by kernel_rfl) (by kernel_rfl) (by kernel_rfl) rfl (fun args h hc => by obtain ⟨_, _, _, rfl, _⟩ := obS_inv vlL_keys hc; simp) b119
noncomputable abbrev odcS : HSpec := obS vlL [5901, 5903] odsE (fun _ d h => Blank [9302] h ∧ d.length ≤ 1000000) (fun r d _ => .bool (d.any r.badO)) (fun r _ => r) fun _ d h => bmp [9302] d.length h
theorem odc_go (r : Reg) (d : List Od) (h : Hp) : odcS.go [.sl 2 (d.map Od.row), .fn 93 [.bptr 5903 0 1 0 0]] (Ob vlL r h) = ⟨Blank [9302] (Ob vlL r h) ∧ d.length ≤ 1000000, .bool (d.any r.badO), Ob vlL r (bmp [9302] d.length (Ob vlL r h))⟩ :=
  obS_go vlL_keys vlL_inj (fun s d d' h => map_inj Od.row_inj (by simpa using h)) r d h
noncomputable abbrev E92 : Env := { P := Tryd.prog, fn := tbl [(119, .heap odsS)], own := [], key := 9200, nt := 9 }
theorem b92 : HeapBody E92 [] Tryd.f92 odcS := by
  intro args h hc
  obtain ⟨r, l, hh, rfl, ⟨hp, hl⟩, hgo⟩ := obS_inv vlL_keys hc
  rw [hgo]
  clear hgo hc
  obtain ⟨h0, rfl⟩ : ∃ h0, h = Ob vlL r h0 := ⟨h, hh⟩
  clear hh
  have hz := idxZ_any l r.badO
  have hb : h0 9302 = { base := (h0 9302).base, blks := [] } := by simpa [Blank] using hp
  have hp' : Blank [9302] (Ob vlL r h0) := hp
  simp -dsimp [Tryd.f92, E92, bmp]
  repeat' (first | omega | (simp -dsimp [E92, ri, cellp, ints, ods_go, hp', hl, hz, bmp, hle_refl]) | (refine Also.intro ?_ fun _ => ?_) | (refine Hold.intro fun _ => ?_) | (refine And.intro ?_ ?_))
theorem ok92 : FnOK Tryd.prog 92 (.heap odcS) := heap_fn (E := E92) rfl (.cons ok119 .nil) (ok := []) (fn := Tryd.f92) (by kernel_rfl) (by kernel_rfl) (by kernel_rfl) (by kernel_rfl) rfl (fun args h hc => by obtain ⟨_, _, _, rfl, _⟩ := obS_inv vlL_keys hc; simp) b92
/-! valid -/
def Reg.valid (r : Reg) : Bool := decide (r.kinds.length ≤ 6) && (decide (r.parts.length ≤ 24) && (decide (r.orders.length ≤ 6) && (withinB r.machines 0 4 && (!r.kinds.any Kd.bad && (!r.parts.any r.badP && !r.orders.any r.badO)))))
@[simp] def regE (r : Reg) : List V := [.agg r.row]
theorem regE_inj (a b : Reg) (h : regE a = regE b) : a = b := Reg.row_inj _ _ (by simpa using h)
theorem regE_dec (r : Reg) : decC regE [.agg r.row] = r := decC_eq regE_inj r
noncomputable abbrev validS : PSpec := mkP regE (fun r => r.kinds.length ≤ 9223372036854775807 ∧ r.parts.length ≤ 9223372036854775807 ∧ r.orders.length ≤ 9223372036854775807) fun r => .bool r.valid
noncomputable abbrev E59 : Env := { P := Tryd.prog, fn := tbl [(37, .pure withinS), (88, .pure kdcS), (89, .pure kdS), (90, .heap ptcS), (91, .heap ptS), (92, .heap odcS), (93, .heap odS), (87, .pure kkS)], own := [], key := 5900, nt := 45 }
theorem b59 : PureBody E59 [] Tryd.f59 validS := by
  refine pb ?_
  rintro r ⟨b1, b2, b3⟩
  have hv : ∀ r : Reg, hps [(5903, { base := 0, blks := [{ z := 1, els := [[.fn 87 [.bptr 5901 0 1 0 0]]], ty := 23, cl := false }] }), (5901, { base := 0, blks := [{ z := 4, els := [[.sl 3 (r.kinds.map Kd.row), .sl 4 (r.parts.map Pt.row), .int .i64 r.machines, .sl 2 (r.orders.map Od.row)]], ty := 43 }] })] noH = Ob vlL r noH := by
    intro r; funext k; simp only [Ob, vlL, hps_cons, hps_nil, Reg.row]
    by_cases h1 : k = 5903
    · subst h1; simp
    · by_cases h2 : k = 5901
      · subst h2; simp
      · simp [h1, h2]
  by_cases c1 : r.kinds.length ≤ 6
  case neg =>
    have d1 : (6 : Int) < r.kinds.length := by omega
    have e1 : 6 < r.kinds.length := by omega
    simp -dsimp [Tryd.f59, E59, Reg.row]
    repeat' (first | omega | (simp -dsimp [E59, ri, cellp, ints, b1, b2, b3, d1, e1, Reg.row, Reg.valid]) | (refine Also.intro ?_ fun _ => ?_) | (refine Hold.intro fun _ => ?_) | (refine And.intro ?_ ?_))
  have d1 : ¬ (6 : Int) < r.kinds.length := by omega
  have e1 : ¬ 6 < r.kinds.length := by omega
  by_cases c2 : r.parts.length ≤ 24
  case neg =>
    have d2 : (24 : Int) < r.parts.length := by omega
    have e2 : 24 < r.parts.length := by omega
    simp -dsimp [Tryd.f59, E59, Reg.row]
    repeat' (first | omega | (simp -dsimp [E59, ri, cellp, ints, b1, b2, b3, d1, e1, c1, d2, e2, Reg.row, Reg.valid]) | (refine Also.intro ?_ fun _ => ?_) | (refine Hold.intro fun _ => ?_) | (refine And.intro ?_ ?_))
  have d2 : ¬ (24 : Int) < r.parts.length := by omega
  have e2 : ¬ 24 < r.parts.length := by omega
  by_cases c3 : r.orders.length ≤ 6
  case neg =>
    have d3 : (6 : Int) < r.orders.length := by omega
    have e3 : 6 < r.orders.length := by omega
    simp -dsimp [Tryd.f59, E59, Reg.row]
    repeat' (first | omega | (simp -dsimp [E59, ri, cellp, ints, b1, b2, b3, d1, e1, c1, d2, e2, c2, d3, e3, Reg.row, Reg.valid]) | (refine Also.intro ?_ fun _ => ?_) | (refine Hold.intro fun _ => ?_) | (refine And.intro ?_ ?_))
  have d3 : ¬ (6 : Int) < r.orders.length := by omega
  have e3 : ¬ 6 < r.orders.length := by omega
  cases c4 : withinB r.machines 0 4
  · simp -dsimp [Tryd.f59, E59, Reg.row]
    repeat' (first | omega | (simp -dsimp [E59, ri, cellp, ints, b1, b2, b3, d1, e1, c1, d2, e2, c2, d3, e3, c3, c4, Reg.row, Reg.valid]) | (refine Also.intro ?_ fun _ => ?_) | (refine Hold.intro fun _ => ?_) | (refine And.intro ?_ ?_))
  have k1 : r.kinds.length ≤ 1000000 := by omega
  have k2 : r.parts.length ≤ 1000000 := by omega
  have k3 : r.orders.length ≤ 1000000 := by omega
  cases c5 : r.kinds.any Kd.bad <;> cases c6 : r.parts.any r.badP <;> cases c7 : r.orders.any r.badO <;> simp -dsimp [Tryd.f59, E59, Reg.row] <;> repeat' (first | omega | (simp -dsimp [E59, ri, cellp, ints, b1, b2, b3, k1, k2, k3, d1, e1, c1, d2, e2, c2, d3, e3, c3, c4, c5, c6, c7, hv, kdsE_dec, ptc_go, odc_go, Blank, bmp, Reg.row, Reg.valid]) | (refine Also.intro ?_ fun _ => ?_) | (refine Hold.intro fun _ => ?_) | (refine And.intro ?_ ?_))
theorem ok59 : FnOK Tryd.prog 59 (.pure validS) := pure_fn (E := E59) rfl (.cons ok37 (.cons ok88 (.cons ok89 (.cons ok90 (.cons ok91 (.cons ok92 (.cons ok93 (.cons ok87 .nil)))))))) (ok := []) (fn := Tryd.f59) (by kernel_rfl) (by kernel_rfl) (by kernel_rfl) (by kernel_rfl) rfl (fun _ _ => by simp) b59
end Go.Sx
end
section
/- Parts: a new hangar. No conditions. -/
set_option linter.unusedSimpArgs false
set_option linter.unusedSectionVars false
set_option maxRecDepth 100000
set_option maxHeartbeats 8000000
namespace Go.Sx
open Go.Proofs
attribute [local irreducible] HLe
attribute [local simp] hps_app

@[simp] theorem gls0 : Gls.G 0 = some (.ip 2 [[.int .i64 (-1), .int .i64 (-1)]] 0 0) := rfl
@[simp] theorem gls1 : Gls.G 1 = some (.ip 2 [[.int .i64 (-2), .int .i64 (-2)]] 0 0) := rfl
def PS.new (r : Reg) (p : Pt) : PS := { kind := p.kind, hours := p.hours, cycles := p.cycles, known := p.known, a := -1, b := -1, since := List.replicate r.orders.length 0, chk := List.replicate r.orders.length false }
def HG.new (r : Reg) : HG := { r := r, ps := r.parts.map (PS.new r), iss := List.replicate r.orders.length false, fl := List.replicate r.machines.toNat (0, 0), wk := 0, hi := List.replicate r.parts.length none, hb := [], hcl := true }
structure Reg.Small (r : Reg) : Prop where
  kinds : r.kinds.length ≤ 1000
  parts : r.parts.length ≤ 1000
  m0 : 0 ≤ r.machines
  m1 : r.machines ≤ 1000
  orders : r.orders.length ≤ 1000
abbrev newOwn : List Nat := [6001, 6005, 6044]
/-- Nothing has been made at the hangar's sites. -/
def Fresh (h : Hp) : Prop := ∀ k ∈ hkeys, h k = { base := 0, blks := [] }
noncomputable def newS : HSpec where
  go args h := ⟨(args = [.agg (decC regE args).row] ∧ (decC regE args).Small) ∧ Fresh h ∧ Blank newOwn h, .bptr 6019 0 1 0 0, Ob hgL (HG.new (decC regE args)) (bmp newOwn 1000000 h)⟩
theorem new_go (r : Reg) (h : Hp) : newS.go [.agg r.row] h = ⟨r.Small ∧ Fresh h ∧ Blank newOwn h, .bptr 6019 0 1 0 0, Ob hgL (HG.new r) (bmp newOwn 1000000 h)⟩ := by
  simp only [newS, regE_dec, true_and]
theorem new_inv {args : List V} {h : Hp} (hc : (newS.go args h).c) : ∃ r : Reg, args = [.agg r.row] ∧ r.Small ∧ Fresh h ∧ Blank newOwn h := by
  obtain ⟨⟨h1, h2⟩, h3, h4⟩ := hc
  exact ⟨_, h1, h2, h3, h4⟩
theorem PS.blk_eq (k : Nat) (p : PS) : p.blk k = { z := 8, els := [[.int .i64 p.kind, .int .i64 p.hours, .int .i64 p.cycles, .bool p.known, .int .i64 p.a, .int .i64 p.b, .bsl 6037 k p.since.length, .bsl 6041 k p.chk.length]], ty := 94, cl := false } := rfl
theorem ptsB_succ (k : Nat) : ptsB (k + 1) = [{ z := 1, els := ((List.range k).map fun k => [.bptr 6043 k 1 0 0]) ++ [[.bptr 6043 k 1 0 0]], ty := 92, cl := false }] := by
  simp [ptsB, List.range_succ]
def newT (r : Reg) (k : Nat) : List PS := (r.parts.take k).map (PS.new r)
noncomputable abbrev E60 : Env := { P := Tryd.prog, fn := tbl [], own := [44], key := 6000, nt := 50 }
theorem b60 : HeapBody E60 [(1, ([2000, 2002, 2006, 2009], [[0, 1, 2, 3, 4, 5, 6, 7, 8, 9, 10, 11, 12, 13, 14]])), (5, ([2004, 2005, 6, 2008, 2012], [[0, 1, 2, 3, 4, 5, 6, 7, 8, 9, 10, 11, 12, 13, 14, 15, 16, 17, 18, 19, 20, 21]]))] Tryd.f60 newS := by
  intro args h hc
  obtain ⟨r, rfl, hsm, hfr, hbl⟩ := new_inv hc
  rw [new_go]
  clear hc
  obtain ⟨s1, s2, s3, s4, s5⟩ := hsm
  obtain ⟨mn, hmn⟩ : ∃ mn : Nat, r.machines = mn := ⟨r.machines.toNat, by omega⟩
  have hmn' : mn ≤ 1000 := by omega
  have hh : h = hps ([(6019, { base := 0, blks := [] }), (6045, { base := 0, blks := [] }), (6043, { base := 0, blks := [] }), (6037, { base := 0, blks := [] }), (6041, { base := 0, blks := [] }), (6010, { base := 0, blks := [] }), (6013, { base := 0, blks := [] }), (6017, { base := 0, blks := [] }), (9615, { base := 0, blks := [] }), (6001, { base := (h 6001).base, blks := [] }), (6005, { base := (h 6005).base, blks := [] }), (6044, { base := (h 6044).base, blks := [] })]) h := by
    refine (hps_self fun k hk => ?_).symm
    have f := fun k hk => hfr k hk
    have b := fun k hk => hbl k hk
    simp only [List.map_cons, List.map_nil, List.mem_cons, List.not_mem_nil, or_false] at hk
    rcases hk with rfl | rfl | rfl | rfl | rfl | rfl | rfl | rfl | rfl | rfl | rfl | rfl
    all_goals first
      | exact f _ (by simp)
      | exact b _ (by simp)
  clear hfr hbl
  have hpost : Ob hgL (HG.new r) (bmp newOwn 1000000 h) = hps (hgL (HG.new r) ++ [(6001, { base := (h 6001).base + 1000000, blks := [] }), (6005, { base := (h 6005).base + 1000000, blks := [] }), (6044, { base := (h 6044).base + 1000000, blks := [] })]) h := by
    simp only [Ob, bmp, hps_app, newOwn, List.map_cons, List.map_nil]
  rw [hpost]
  clear hpost
  generalize (h 6001).base = b1 at *
  generalize (h 6005).base = b5 at *
  generalize (h 6044).base = b44 at *
  rw [hh]
  simp only [hps_app]
  clear hh
  simp -dsimp [Tryd.f60, E60, Reg.row]
  repeat' (first | omega | (simp -dsimp [E60, ri, cellp, ints, FoOk, Reg.row, hmn, hmn', s1, s2, s5]) | (refine Also.intro ?_ fun _ => ?_) | (refine Hold.intro fun _ => ?_) | (refine And.intro ?_ ?_))
  refine awp_loop [24, 25, 26, 5, 27, 28, 29, 30, 31, 32, 33, 34, 35, 36, 37, 38, 39, 40, 41, 42, 43, 44, 45, 46, 47, 48, 23] (fun k : Fin (r.parts.length + 1) => [(23, (true, .int .i64 (k.1 : Nat)))])
    (fun k => hps [(6019, { base := 0, blks := [{ z := 9, els := [[.sl 3 (r.kinds.map Kd.row), .sl 4 (r.parts.map Pt.row), .int .i64 (mn : Nat), .sl 2 (r.orders.map Od.row), ptsV k.1, .bsl 6010 0 r.orders.length, .bsl 6013 0 mn, .int .i64 0, .bsl 6017 0 r.parts.length]], ty := 82, cl := false }] }),
      (6045, { base := 0, blks := ptsB k.1 }), (6043, { base := 0, blks := (newT r k.1).mapIdx PS.blk }), (6037, { base := 0, blks := (newT r k.1).map sinB }), (6041, { base := 0, blks := (newT r k.1).map chkB }),
      (6017, { base := 0, blks := [{ z := 1, els := List.replicate r.parts.length [.nil], ty := 159 }] }), (6013, { base := 0, blks := [{ z := 2, els := List.replicate mn [.int .i64 0, .int .i64 0], ty := 88 }] }), (6010, { base := 0, blks := [{ z := 1, els := List.replicate r.orders.length [.bool false], ty := 4 }] }),
      (9615, { base := 0, blks := [] }),
      (6001, { base := b1, blks := [{ z := 4, els := [[.sl 3 (r.kinds.map Kd.row), .sl 4 (r.parts.map Pt.row), .int .i64 (mn : Nat), .sl 2 (r.orders.map Od.row)]], ty := 43 }] }), (6005, { base := b5 + k.1, blks := [] }), (6044, { base := b44 + k.1, blks := [] })] h) (fun k => r.parts.length - k.1) ⟨0, by omega⟩ ?_ ?_ ?_
  · simp [okAll, okv]
  · exact (by (try simp -dsimp only [hpush_noH, hpush_hps, hps_over]); refine hle_hpsb ?_; simp -dsimp [allK, newT, ptsB, ptsV]; repeat' (first | (refine And.intro ?_ ?_) | (refine sLe.same ?_ ?_ <;> (simp; done)) | (refine sLe.clear ?_ ?_ <;> (first | (simp; done) | (simp; omega))) | (refine sLe.drop 1 ?_ ?_ ?_ <;> (simp; done))))
  rintro ⟨k, hk⟩
  simp only
  by_cases hk1 : k < r.parts.length
  · have hki : (k : Int) < r.parts.length := by omega
    have wk : IntKind.wrap .i64 ((k : Int) + 1) = (k + 1 : Nat) := wrap_id (by omega) (by omega)
    obtain ⟨p, hp, hp'⟩ := get_ex hk1
    have hTl : (newT r k).length = k := by simp [newT]; omega
    have hT : newT r (k + 1) = newT r k ++ [PS.new r p] := by simp [newT, List.take_add_one, hp]
    have hT1 : (newT r (k + 1)).mapIdx PS.blk = (newT r k).mapIdx PS.blk ++ [{ z := 8, els := [[.int .i64 p.kind, .int .i64 p.hours, .int .i64 p.cycles, .bool p.known, .int .i64 (-1), .int .i64 (-1), .bsl 6037 k r.orders.length, .bsl 6041 k r.orders.length]], ty := 94, cl := false }] := by
      rw [hT, List.mapIdx_concat, hTl]; simp [PS.blk_eq, PS.new]
    have hT2 : (newT r (k + 1)).map sinB = (newT r k).map sinB ++ [{ z := 1, els := List.replicate r.orders.length [.int .i64 0], ty := 3 }] := by
      rw [hT]; simp [sinB, PS.new, ri]
    have hT3 : (newT r (k + 1)).map chkB = (newT r k).map chkB ++ [{ z := 1, els := List.replicate r.orders.length [.bool false], ty := 4 }] := by
      rw [hT]; simp [chkB, PS.new, rb]
    clear hT
    generalize newT r k = T at *
    have hb8 : ((k : Nat) + 1) * 8 ≤ 140737488355328 := by omega
    have hB := ptsB_succ k
    have hV : ptsV (k + 1) = .bsl 6045 0 (k + 1) := ptsV_ne (by omega)
    by_cases hk0 : k = 0
    · subst hk0
      have hTn : T = [] := List.length_eq_zero_iff.1 hTl
      subst hTn
      have z1 : ptsV 0 = .nil := rfl
      have z2 : ptsB 0 = [] := rfl
      have hk2 : ¬ r.parts = [] := by rintro e; rw [e] at hk1; simp at hk1
      simp -dsimp [hki, hk1, hk2]
      repeat' (first | omega | (simp -dsimp [E60, ri, cellp, ints, FoOk, FreeAt, hki, hk1, hk2, hp, hp', wk, Pt.row, s5, hb8, z1, z2]) | (refine Also.intro ?_ fun _ => ?_) | (refine Hold.intro fun _ => ?_) | (refine And.intro ?_ ?_))
      refine ⟨⟨0 + 1, by omega⟩, tle_chain rfl ?_, (by (try simp -dsimp only [hpush_noH, hpush_hps, hps_over]); refine hle_hpsb ?_; simp -dsimp [allK, hT1, hT2, hT3, hB, hV]; repeat' (first | (refine And.intro ?_ ?_) | (refine sLe.same ?_ ?_ <;> (simp; done)) | (refine sLe.clear ?_ ?_ <;> (first | (simp; done) | (simp; omega))) | (refine sLe.drop 1 ?_ ?_ ?_ <;> (simp; done)))), by simp only; omega⟩
      simp [okAll, okv]
      exact wk
    · have z1 : ptsV k = .bsl 6045 0 k := ptsV_ne (by omega)
      have z2 := ptsB_ne (n := k) (by omega)
      simp -dsimp [hki]
      repeat' (first | omega | (simp -dsimp [E60, ri, cellp, ints, FoOk, FreeAt, hki, hk1, hp, hp', wk, Pt.row, s5, hb8, z1, z2, hTl]) | (refine Also.intro ?_ fun _ => ?_) | (refine Hold.intro fun _ => ?_) | (refine And.intro ?_ ?_))
      refine ⟨⟨k + 1, by omega⟩, tle_chain rfl ?_, (by (try simp -dsimp only [hpush_noH, hpush_hps, hps_over]); refine hle_hpsb ?_; simp -dsimp [allK, hT1, hT2, hT3, hB, hV]; repeat' (first | (refine And.intro ?_ ?_) | (refine sLe.same ?_ ?_ <;> (simp; done)) | (refine sLe.clear ?_ ?_ <;> (first | (simp; done) | (simp; omega))) | (refine sLe.drop 1 ?_ ?_ ?_ <;> (simp; done)))), by simp only; omega⟩
      simp [okAll, okv]
  · have hkn : ¬ (k : Int) < r.parts.length := by omega
    have hke : k = r.parts.length := by omega
    subst hke
    have hTf : newT r r.parts.length = r.parts.map (PS.new r) := by simp [newT]
    simp -dsimp [hkn]
    repeat' (first | omega | (simp -dsimp [E60, ri, cellp, ints, hkn]) | (refine Also.intro ?_ fun _ => ?_) | (refine Hold.intro fun _ => ?_) | (refine And.intro ?_ ?_))
    exact (by (try simp -dsimp only [hpush_noH, hpush_hps, hps_over]); refine hle_hpsb ?_; simp -dsimp [allK, hgL, HG.new, HG.row, hTf, hmn, hiV, rb, cycV]; repeat' (first | (refine And.intro ?_ ?_) | (refine sLe.same ?_ ?_ <;> (simp; done)) | (refine sLe.clear ?_ ?_ <;> (first | (simp; done) | (simp; omega))) | (refine sLe.drop 1 ?_ ?_ ?_ <;> (simp; done))))
theorem ok60 : FnOK Tryd.prog 60 (.heap newS) := heap_fn (E := E60) rfl LOK.nil (ok := [(1, ([2000, 2002, 2006, 2009], [[0, 1, 2, 3, 4, 5, 6, 7, 8, 9, 10, 11, 12, 13, 14]])), (5, ([2004, 2005, 6, 2008, 2012], [[0, 1, 2, 3, 4, 5, 6, 7, 8, 9, 10, 11, 12, 13, 14, 15, 16, 17, 18, 19, 20, 21]]))]) (fn := Tryd.f60) (by kernel_rfl) (by kernel_rfl) (by kernel_rfl) (by kernel_rfl) rfl (fun args h hc => by obtain ⟨_, rfl, _⟩ := new_inv hc; simp) b60
end Go.Sx
end
section
/- Parts: what a work does to a hangar. No conditions. -/
set_option linter.unusedSimpArgs false
set_option linter.unusedSectionVars false
set_option maxRecDepth 100000
set_option maxHeartbeats 2000000
namespace Go.Sx
open Go.Proofs
attribute [local irreducible] HLe
attribute [local simp] hps_app

/-! end: the last stretch of a history ends -/
def Stt.close (fl : List (Int × Int)) (to : Int) (t : Stt) : Stt := { t with to := to, hours := wsub (fl.getD t.machine.toNat (0, 0)).1 t.hours, cycles := wsub (fl.getD t.machine.toNat (0, 0)).2 t.cycles }
def endL (fl : List (Int × Int)) (to : Int) (l : List Stt) : List Stt := l.set (l.length - 1) ((l.getD (l.length - 1) default).close fl to)
def HG.endd (s : HG) (i : Nat) (to : Int) : HG := { s with hb := s.hb.set i (endL s.fl to (s.hb.getD i [])) }
structure EndOk (s : HG) (i : Nat) (l : List Stt) : Prop where
  at_ : s.hb[i]? = some l
  ne : 0 < l.length
  len : l.length ≤ 1000000
  m0 : 0 ≤ (l.getD (l.length - 1) default).machine
  m1 : (l.getD (l.length - 1) default).machine < s.fl.length
structure EndD where
  i : Nat
  n : Nat
  to : Int
@[simp] def endE (_ : HG) (d : EndD) : List V := [.bptr 6019 0 1 0 0, .bsl 9615 d.i d.n, .int .i64 d.to]
noncomputable abbrev endS : HSpec := obS hgL hkeys endE (fun s d _ => ∃ l, EndOk s d.i l ∧ d.n = l.length) (fun _ _ _ => .tup []) (fun s d => s.endd d.i d.to) fun _ _ h => h
theorem end_go (s : HG) (i n : Nat) (to : Int) (h : Hp) : endS.go [.bptr 6019 0 1 0 0, .bsl 9615 i n, .int .i64 to] (Ob hgL s h) = ⟨∃ l, EndOk s i l ∧ n = l.length, .tup [], Ob hgL (s.endd i to) (Ob hgL s h)⟩ :=
  obS_go hgL_keys hgL_inj (fun s (d d' : EndD) h => by obtain ⟨a, b, c⟩ := d; obtain ⟨a', b', c'⟩ := d'; simp at h; simp [h]) s ⟨i, n, to⟩ h
noncomputable abbrev E98 : Env := { P := Tryd.prog, fn := tbl [], own := [], key := 9800, nt := 54 }
theorem b98 : HeapBody E98 [] Tryd.f98 endS := by
  intro args h hc
  obtain ⟨s, ⟨i, n, to⟩, hh, rfl, ⟨l, ⟨q1, q2, q3, q4, q5⟩, q6⟩, hgo⟩ := obS_inv hgL_keys hc
  rw [hgo]
  clear hgo hc
  obtain ⟨h0, rfl⟩ : ∃ h0, h = Ob hgL s h0 := ⟨h, hh⟩
  clear hh
  simp only at q1 q6
  subst q6
  have hl1 : l.length - 1 < l.length := by omega
  obtain ⟨t, ht, ht'⟩ := get_ex hl1
  have hg : l.getD (l.length - 1) default = t := by simp [List.getD, ht]
  rw [hg] at q4 q5
  obtain ⟨mi, hmi⟩ : ∃ mi : Nat, t.machine = mi := ⟨t.machine.toNat, by omega⟩
  have hm1 : mi < s.fl.length := by omega
  obtain ⟨f, hf, hf'⟩ := get_ex hm1
  have hgf : s.fl.getD mi (0, 0) = f := by simp [List.getD, hf]
  have hgb : s.hb.getD i [] = l := by simp [List.getD, q1]
  have w1 : IntKind.wrap .i64 ((l.length : Int) - 1) = (l.length - 1 : Nat) := by rw [wrap_id (by omega) (by omega)]; omega
  obtain ⟨s', f1, f2, f3, f4, f5⟩ : ∃ s' : Stt → HG, (∀ t, (s' t).hb[i]? = some (l.set (l.length - 1) t)) ∧ (∀ t, (s' t).fl = s.fl) ∧
      (∀ t a b c d e f h, hset (Ob hgL (s' t) h) 9615 i { z := 6, els := (l.map Stt.row).set (l.length - 1) [.int .i64 a, .int .i64 b, .int .i64 c, .int .i64 d, .int .i64 e, .int .i64 f], ty := 181, fz := false, cl := true } = Ob hgL (s' ⟨a, b, c, d, e, f⟩) h) ∧
      s = s' t ∧ s.endd i to = s' (t.close s.fl to) := by
    refine ⟨fun t => { s with hb := s.hb.set i (l.set (l.length - 1) t) }, fun t => ?_, fun t => rfl, fun t a b c d e f h => ?_, ?_, ?_⟩
    · have : i < s.hb.length := (List.getElem?_eq_some_iff.1 q1).1
      simp [this]
    · have := w_hb (s := { s with hb := s.hb.set i (l.set (l.length - 1) t) }) (h := h) (i := i) (l.set (l.length - 1) ⟨a, b, c, d, e, f⟩)
      simp only [hbB, List.map_set, Stt.row, List.set_set] at this
      exact this
    · simp only [set_id ht, set_id q1]
    · simp only [HG.endd, endL, hgb, hg]
  have hcl : t.close s.fl to = { t with to := to, hours := IntKind.wrap .i64 (f.1 - t.hours), cycles := IntKind.wrap .i64 (f.2 - t.cycles) } := by
    simp only [Stt.close, wsub, hmi, Int.toNat_natCast, hgf]
  rw [f5, hcl, f4]
  simp only [f4 ▸ f2 t]
  clear f4 f5 hcl hg hgf hgb ht'
  simp -dsimp [Tryd.f98, E98]
  repeat' (first | omega | (simp -dsimp [E98, ri, cellp, ints, w1, hl1, q2, q3, f1, f2, f3, hbB, Stt.row, hmi, hm1, hf, hf', cycV, hle_refl]) | (refine Also.intro ?_ fun _ => ?_) | (refine Hold.intro fun _ => ?_) | (refine And.intro ?_ ?_))
theorem ok98 : FnOK Tryd.prog 98 (.heap endS) := heap_fn (E := E98) rfl LOK.nil (ok := []) (fn := Tryd.f98) (by kernel_rfl) (by kernel_rfl) (by kernel_rfl) (by kernel_rfl) rfl (fun args h hc => by obtain ⟨_, _, _, rfl, _⟩ := obS_inv hgL_keys hc; simp) b98
end Go.Sx
end
section
/- Parts: checks and flights. No conditions. -/
set_option linter.unusedSimpArgs false
set_option linter.unusedSectionVars false
set_option maxRecDepth 100000
set_option maxHeartbeats 2000000
namespace Go.Sx
open Go.Proofs
attribute [local irreducible] HLe
attribute [local simp] hps_app

/-- A hangar as its own works leave it. -/
structure HG.Ok (s : HG) : Prop where
  hok : s.Hok
  ps : s.ps.length ≤ 1000
  kinds : s.r.kinds.length ≤ 1000
  orders : s.r.orders.length ≤ 1000
  places : ∀ kd ∈ s.r.kinds, kd.places ≤ 1000
  fit : ∀ p ∈ s.ps, s.i.Fit p
  hil : s.hi.length = s.ps.length
  m0 : 0 ≤ s.r.machines
  m1 : s.r.machines ≤ 1000
  iss : s.iss.length = s.r.orders.length
  fl : (s.fl.length : Int) = s.r.machines
  hl : ∀ (i : Nat) (l : List Stt), s.hb[i]? = some l → l.length ≤ 1000000 ∧ s.hb.length ≤ 1000000
  at_ : ∀ (k : Nat) (p : PS), s.ps[k]? = some p → 0 ≤ p.a → p.a < s.r.machines ∧ ∃ (i : Nat) (l : List Stt), s.hi[k]? = some (some (i, l.length)) ∧ EndOk s i l
theorem HG.Ok.small {s : HG} (h : s.Ok) : s.i.Small := ⟨h.ps, h.kinds, h.places⟩
/-- The number of something that is there. -/
theorem withinB_nat {n : Int} {m : Nat} (hm : m ≤ 1000000) (h : withinB n 0 (wsub m 1) = true) : ∃ k : Nat, n = k ∧ k < m := by
  have hw : wsub (m : Int) 1 = m - 1 := wrap_id (by omega) (by omega)
  rw [hw] at h
  simp only [withinB, decide_eq_true_eq] at h
  exact ⟨n.toNat, by omega, by omega⟩
def HG.chkOk (s : HG) (n o : Int) : Bool :=
  s.i.part n && (s.i.order o && (s.iss.getD o.toNat false && (((s.ps.getD n.toNat default).kind == (s.r.orders.getD o.toNat default).kind) && !(s.ps.getD n.toNat default).chk.getD o.toNat false)))
def HG.chkDo (s : HG) (n o : Int) : HG := { s with ps := s.ps.set n.toNat { s.ps.getD n.toNat default with chk := (s.ps.getD n.toNat default).chk.set o.toNat true } }
structure N2 where
  a : Int
  b : Int
@[simp] def n2E (_ : HG) (d : N2) : List V := [.bptr 6019 0 1 0 0, .int .i64 d.a, .int .i64 d.b]
noncomputable abbrev checkS : HSpec := obS hgL hkeys n2E (fun s _ _ => s.Ok) (fun s d _ => .bool (s.chkOk d.a d.b)) (fun s d => if s.chkOk d.a d.b = true then s.chkDo d.a d.b else s) fun _ _ h => h
theorem n2E_inj (s : HG) (d d' : N2) (h : n2E s d = n2E s d') : d = d' := by
  obtain ⟨a, b⟩ := d; obtain ⟨a', b'⟩ := d'; simp at h; simp [h]
theorem check_go (s : HG) (a b : Int) (h : Hp) : checkS.go [.bptr 6019 0 1 0 0, .int .i64 a, .int .i64 b] (Ob hgL s h) = ⟨s.Ok, .bool (s.chkOk a b), Ob hgL (if s.chkOk a b = true then s.chkDo a b else s) (Ob hgL s h)⟩ :=
  obS_go hgL_keys hgL_inj n2E_inj s ⟨a, b⟩ h
noncomputable abbrev E96 : Env := { P := Tryd.prog, fn := tbl [(97, .pure partS), (99, .pure orderS)], own := [], key := 9600, nt := 65 }
theorem b96 : HeapBody E96 [] Tryd.f96 checkS := by
  intro args h hc
  obtain ⟨s, ⟨n, o⟩, hh, rfl, hok, hgo⟩ := obS_inv hgL_keys hc
  rw [hgo]
  clear hgo hc
  obtain ⟨h0, rfl⟩ : ∃ h0, h = Ob hgL s h0 := ⟨h, hh⟩
  clear hh
  have hk := hok.hok
  cases c1 : s.i.part n
  · have hf : s.chkOk n o = false := by simp [HG.chkOk, c1]
    simp -dsimp [Tryd.f96, E96, -lendN, -lend1]
    repeat' (first | omega | (simp -dsimp [E96, ri, cellp, ints, -lendN, -lend1, hk, HI.v, hiE_dec', c1, hf, hle_refl]) | (refine Also.intro ?_ fun _ => ?_) | (refine Hold.intro fun _ => ?_) | (refine And.intro ?_ ?_))
  cases c2 : s.i.order o
  · have hf : s.chkOk n o = false := by simp [HG.chkOk, c2]
    simp -dsimp [Tryd.f96, E96, -lendN, -lend1]
    repeat' (first | omega | (simp -dsimp [E96, ri, cellp, ints, -lendN, -lend1, hk, HI.v, hiE_dec', c1, c2, hf, hle_refl]) | (refine Also.intro ?_ fun _ => ?_) | (refine Hold.intro fun _ => ?_) | (refine And.intro ?_ ?_))
  obtain ⟨ni, rfl, hni⟩ := withinB_nat (m := s.ps.length) (by have := hok.ps; omega) c1
  obtain ⟨oi, rfl, hoi⟩ := withinB_nat (m := s.r.orders.length) (by have := hok.orders; omega) c2
  obtain ⟨p, hp, hp'⟩ := get_ex hni
  obtain ⟨od, hod, hod'⟩ := get_ex hoi
  have hpf := hok.fit p (hp' ▸ List.getElem_mem hni)
  have l1 : oi < s.iss.length := by have := hok.iss; omega
  have l2 : oi < p.chk.length := by rw [hpf.chk]; exact hoi
  obtain ⟨b1, hb1, hb1'⟩ := get_ex l1
  obtain ⟨b2, hb2, hb2'⟩ := get_ex l2
  have hpts := ptsV_ne (n := s.ps.length) (by omega)
  have hptB := ptsB_ne (n := s.ps.length) (by omega)
  have hmx := mapIdx_get hp
  have hval : s.chkOk ni oi = (b1 && ((p.kind == od.kind) && !b2)) := by
    simp [HG.chkOk, c1, c2, List.getD, hp, hod, hb1, hb2]
  cases b1
  · have hf : s.chkOk ni oi = false := by simp [hval]
    simp -dsimp [Tryd.f96, E96, -lendN, -lend1]
    repeat' (first | omega | (simp -dsimp [E96, ri, cellp, ints, -lendN, -lend1, hk, HI.v, hiE_dec', c1, c2, hf, hle_refl, hni, hoi, l1, l2, hb1, hb1', rb]) | (refine Also.intro ?_ fun _ => ?_) | (refine Hold.intro fun _ => ?_) | (refine And.intro ?_ ?_))
  by_cases hkd : p.kind = od.kind
  case neg =>
    have hf : s.chkOk ni oi = false := by simp [hval, hkd]
    simp -dsimp [Tryd.f96, E96, -lendN, -lend1]
    repeat' (first | omega | (simp -dsimp [E96, ri, cellp, ints, -lendN, -lend1, hk, HI.v, hiE_dec', c1, c2, hf, hle_refl, hni, hoi, l1, l2, hb1, hb1', hb2, hb2', hp, hp', hod, hod', hpts, hptB, PS.blk, PS.row, Od.row, chkB, rb, hkd]) | (refine Also.intro ?_ fun _ => ?_) | (refine Hold.intro fun _ => ?_) | (refine And.intro ?_ ?_))
  cases b2
  · have hf : s.chkOk ni oi = true := by simp [hval, hkd]
    have hw := fun h => w_chk (s := s) (h := h) (j := oi) hp true
    have hdo : s.chkDo ni oi = { s with ps := s.ps.set ni { p with chk := p.chk.set oi true } } := by simp [HG.chkDo, List.getD, hp]
    simp -dsimp [Tryd.f96, E96, -lendN, -lend1]
    repeat' (first | omega | (simp -dsimp [E96, ri, cellp, ints, -lendN, -lend1, hk, HI.v, hiE_dec', c1, c2, hf, hle_refl, hni, hoi, l1, l2, hb1, hb1', hb2, hb2', hp, hp', hod, hod', hpts, hptB, PS.blk, PS.row, Od.row, chkB, rb, hkd, hw, hdo]) | (refine Also.intro ?_ fun _ => ?_) | (refine Hold.intro fun _ => ?_) | (refine And.intro ?_ ?_))
  · have hf : s.chkOk ni oi = false := by simp [hval, hkd]
    simp -dsimp [Tryd.f96, E96, -lendN, -lend1]
    repeat' (first | omega | (simp -dsimp [E96, ri, cellp, ints, -lendN, -lend1, hk, HI.v, hiE_dec', c1, c2, hf, hle_refl, hni, hoi, l1, l2, hb1, hb1', hb2, hb2', hp, hp', hod, hod', hpts, hptB, PS.blk, PS.row, Od.row, chkB, rb, hkd]) | (refine Also.intro ?_ fun _ => ?_) | (refine Hold.intro fun _ => ?_) | (refine And.intro ?_ ?_))
theorem ok96 : FnOK Tryd.prog 96 (.heap checkS) := heap_fn (E := E96) rfl (.cons ok97 (.cons ok99 .nil)) (ok := []) (fn := Tryd.f96) (by kernel_rfl) (by kernel_rfl) (by kernel_rfl) (by kernel_rfl) rfl (fun args h hc => by obtain ⟨_, _, _, rfl, _⟩ := obS_inv hgL_keys hc; simp) b96
end Go.Sx
end
