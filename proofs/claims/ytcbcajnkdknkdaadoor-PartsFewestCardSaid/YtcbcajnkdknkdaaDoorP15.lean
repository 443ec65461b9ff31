/- A part of a proof; no conditions. -/
import Derived.Test.YtcbcajnkdknkdaaDoorP14
import Derived.Test.YtcbcajnkdknkdaaDoorP13
set_option linter.unusedSimpArgs false
set_option linter.unusedVariables false
set_option linter.unusedSectionVars false
section
/- Parts: plans, and Plan, the reference's and the program's. No conditions. -/
set_option linter.unusedSimpArgs false
set_option linter.unusedSectionVars false
set_option maxRecDepth 100000
set_option maxHeartbeats 4000000
namespace Go.Sx
open Go.Proofs
attribute [local irreducible] HLe
attribute [local simp] hps_app

structure PlD where
  b : List Int
  left : List Int
  fl : List Int
structure PlP (M : Nat) (d : PlD) : Prop where
  le : d.b.length ≤ d.fl.length
  lt : d.fl.length < d.b.length + M
  fl : d.fl.length ≤ 1000
  left : d.left.length ≤ 1000
def PlD.o (d : PlD) : Option (List Int) := rPlans d.fl (d.fl.length - d.b.length) d.b d.left
abbrev plansS (M : Nat) : PSpec := { dom := PlD, enc := fun d => [ints d.b, ints d.left, ints d.fl], dec := fun l => ⟨(l.getD 0 .top).toInts, (l.getD 1 .top).toInts, (l.getD 2 .top).toInts⟩, pre := PlP M, res := fun d => .tup [ints (d.o.getD []), .bool d.o.isSome] }
theorem rTo_succ (g : List Int → List Int → Option (List Int)) (fl b left : List Int) (p : Nat) : rTo g fl b left (p + 1) = if left.getD p 0 < fl.getD b.length 0 then rTo g fl b left p else upd2 (rTo g fl b left p) (g (b ++ [(p : Int)]) (left.set p (wsub (left.getD p 0) (fl.getD b.length 0)))) := rfl
noncomputable abbrev E79 (M : Nat) : Env := { P := Tryd.prog, fn := tbl [(46, .pure chS), (79, .pure (plansS M))], own := [], key := 7900, nt := 73, cfz := [(55, [7939, 7949])] }
theorem b79 (M : Nat) : PureBody (E79 M) [] Tryd.f79 (plansS (M + 1)) := by
  refine pb ?_
  rintro ⟨b, left, fl⟩ ⟨p1, p2, p3, p4⟩
  simp only at p1 p2 p3 p4
  by_cases hn : b.length = fl.length
  · have hO : (⟨b, left, fl⟩ : PlD).o = some b := by simp only [PlD.o]; rw [hn, Nat.sub_self]; rfl
    have hni : (b.length : Int) = fl.length := by omega
    simp -dsimp [Tryd.f79, E79, ints]
    repeat' (first | omega | (simp -dsimp [E79, ri, cellp, ints, hO, hni]) | (refine Also.intro ?_ fun _ => ?_) | (refine Hold.intro fun _ => ?_) | (refine And.intro ?_ ?_))
  have hni : ((b.length : Int) = fl.length) = False := eq_false (by omega)
  obtain ⟨f, hf⟩ : ∃ f, fl.length - b.length = f + 1 := ⟨fl.length - b.length - 1, by omega⟩
  have hf2 : fl.length - (b.length + 1) = f := by omega
  have hO : (⟨b, left, fl⟩ : PlD).o = rTo (rPlans fl f) fl b left left.length := by simp only [PlD.o]; rw [hf]; rfl
  have hbl : b.length < fl.length := by omega
  obtain ⟨hr, hhr, hhr'⟩ := get_ex hbl
  have hhg : fl.getD b.length 0 = hr := by simp [List.getD, hhr]
  rw [hO]
  clear hO
  simp -dsimp [Tryd.f79, E79, ints]
  repeat' (first | omega | (simp -dsimp [E79, ri, cellp, ints, hni, hbl, hhr, hhr']) | (refine Also.intro ?_ fun _ => ?_) | (refine Hold.intro fun _ => ?_) | (refine And.intro ?_ ?_))
  refine awp_loop [26, 27, 28, 29, 32, 33, 34, 35, 36, 37, 38, 39, 12, 40, 41, 42, 43, 44, 45, 46, 48, 49, 50, 51, 52, 53, 54, 55, 47, 56, 57, 13, 14, 58, 59, 60, 61, 62, 63, 64, 65, 66, 67, 68, 69, 70, 8, 9, 30, 31, 11] (fun k : Fin (left.length + 1) => [(11, (true, .int .i64 (k.1 : Nat))), (8, (true, ints ((rTo (rPlans fl f) fl b left k.1).getD []))), (9, (true, .bool (rTo (rPlans fl f) fl b left k.1).isSome))])
    (fun k => hps [(7939, { base := k.1, blks := [] }), (7949, { base := k.1, blks := [] })] noH) (fun k => left.length - k.1) ⟨0, by omega⟩ ?_ ?_ ?_
  · simp [okAll, okv, rTo, ints]
  · show HLe (hps [] noH) _
    exact (by (try simp -dsimp only [hpush_noH, hpush_hps, hps_over]); refine hle_hps ?_; simp -dsimp [allK, ]; repeat' (first | (refine And.intro ?_ ?_) | (refine sLe.same ?_ ?_ <;> (simp; done)) | (refine sLe.clear ?_ ?_ <;> (first | (simp; done) | (simp; omega))) | (refine sLe.drop 1 ?_ ?_ ?_ <;> (simp; done))))
  rintro ⟨k, hk⟩
  simp only
  by_cases hk1 : k < left.length
  case neg =>
    have hkn : ¬ (k : Int) < left.length := by omega
    have hke : k = left.length := by omega
    subst hke
    simp -dsimp [hkn]
    repeat' (first | omega | (simp -dsimp [E79, ri, cellp, ints, hkn, ints]) | (refine Also.intro ?_ fun _ => ?_) | (refine Hold.intro fun _ => ?_) | (refine And.intro ?_ ?_))
  have hki : (k : Int) < left.length := by omega
  have hwk : IntKind.wrap .i64 ((k : Int) + 1) = (k + 1 : Nat) := wrap_id (by omega) (by omega)
  have hS := rTo_succ (rPlans fl f) fl b left k
  obtain ⟨a, ha, ha'⟩ := get_ex hk1
  have hga : left.getD k 0 = a := by simp [List.getD, ha]
  have hlen : ∀ l, rTo (rPlans fl f) fl b left k = some l → l.length = fl.length := by
    intro l hl
    obtain ⟨q, _, _, h2⟩ := rTo_some hl
    obtain ⟨r, h3, h4⟩ := rPlans_ext fl f _ _ _ h2
    rw [h3]; simp; omega
  rw [hga, hhg] at hS
  generalize rTo (rPlans fl f) fl b left k = O at *
  by_cases hlt : a < hr
  · rw [if_pos hlt] at hS
    simp -dsimp [hki]
    repeat' (first | omega | (simp -dsimp [E79, ri, cellp, ints, hki, hk1, ha, ha', hlt, hwk]) | (refine Also.intro ?_ fun _ => ?_) | (refine Hold.intro fun _ => ?_) | (refine And.intro ?_ ?_))
    refine ⟨⟨k + 1, by omega⟩, tle_chain rfl ?_, (by (try simp -dsimp only [hpush_noH, hpush_hps, hps_over]); refine hle_hps ?_; simp -dsimp [allK, ]; repeat' (first | (refine And.intro ?_ ?_) | (refine sLe.same ?_ ?_ <;> (simp; done)) | (refine sLe.clear ?_ ?_ <;> (first | (simp; done) | (simp; omega))) | (refine sLe.drop 1 ?_ ?_ ?_ <;> (simp; done)))), by simp only; omega⟩
    simp [okAll, okv, hS]
  rw [if_neg hlt] at hS
  have hbo : ∀ x : Int, (⟨b ++ [(k : Int)], left.set k x, fl⟩ : PlD).o = rPlans fl f (b ++ [(k : Int)]) (left.set k x) := by
    intro x; simp only [PlD.o, List.length_append, List.length_singleton, hf2]
  have hP : ∀ x : Int, PlP M ⟨b ++ [(k : Int)], left.set k x, fl⟩ := fun x => ⟨by simp; omega, by simp; omega, p3, by simp; omega⟩
  have hlen2 : ∀ l, rPlans fl f (b ++ [(k : Int)]) (left.set k (wsub a hr)) = some l → l.length = fl.length := by
    intro l hl
    obtain ⟨r, h3, h4⟩ := rPlans_ext fl f _ _ _ hl
    rw [h3]; simp; omega
  have hb8 : left.length * 8 ≤ 140737488355328 := by omega
  have hb9 : b.length * 8 ≤ 140737488355328 := by omega
  have hb10 : (b.length + 1) * 8 ≤ 140737488355328 := by omega
  simp only [wsub] at hS hlen2
  generalize hO2 : rPlans fl f (b ++ [(k : Int)]) (left.set k (IntKind.wrap .i64 (a - hr))) = O2 at *
  rcases O2 with _ | l2
  · have hSn : rTo (rPlans fl f) fl b left (k + 1) = O := by rw [hS]; cases O <;> rfl
    simp -dsimp [hki]
    repeat' (first | omega | (simp -dsimp [E79, ri, cellp, ints, hki, hk1, ha, ha', hlt, hwk, hb8, hb9, hb10, ri, hbo, hP, hO2, map_rowInt]) | (refine Also.intro ?_ fun _ => ?_) | (refine Hold.intro fun _ => ?_) | (refine And.intro ?_ ?_))
    refine ⟨⟨k + 1, by omega⟩, tle_chain rfl ?_, (by (try simp -dsimp only [hpush_noH, hpush_hps, hps_over]); refine hle_hps ?_; simp -dsimp [allK, ]; repeat' (first | (refine And.intro ?_ ?_) | (refine sLe.same ?_ ?_ <;> (simp; done)) | (refine sLe.clear ?_ ?_ <;> (first | (simp; done) | (simp; omega))) | (refine sLe.drop 1 ?_ ?_ ?_ <;> (simp; done)))), by simp only; omega⟩
    simp [okAll, okv, hSn]
  have h2l := hlen2 l2 rfl
  have h2l' : l2.length ≤ 1000000 := by omega
  rcases O with _ | m
  · have hSn : rTo (rPlans fl f) fl b left (k + 1) = some l2 := hS
    simp -dsimp [hki]
    repeat' (first | omega | (simp -dsimp [E79, ri, cellp, ints, hki, hk1, ha, ha', hlt, hwk, hb8, hb9, hb10, ri, hbo, hP, hO2, map_rowInt]) | (refine Also.intro ?_ fun _ => ?_) | (refine Hold.intro fun _ => ?_) | (refine And.intro ?_ ?_))
    refine ⟨⟨k + 1, by omega⟩, tle_chain rfl ?_, (by (try simp -dsimp only [hpush_noH, hpush_hps, hps_over]); refine hle_hps ?_; simp -dsimp [allK, ]; repeat' (first | (refine And.intro ?_ ?_) | (refine sLe.same ?_ ?_ <;> (simp; done)) | (refine sLe.clear ?_ ?_ <;> (first | (simp; done) | (simp; omega))) | (refine sLe.drop 1 ?_ ?_ ?_ <;> (simp; done)))), by simp only; omega⟩
    simp [okAll, okv, hSn, ints]
  have hml := hlen m rfl
  have hml' : m.length ≤ 1000000 := by omega
  by_cases hcc : chg l2 < chg m
  · have hSn : rTo (rPlans fl f) fl b left (k + 1) = some l2 := by rw [hS]; simp only [upd2]; rw [if_pos hcc]
    have hci : ((chg l2 : Nat) : Int) < (chg m : Nat) := by omega
    simp -dsimp [hki]
    repeat' (first | omega | (simp -dsimp [E79, ri, cellp, ints, hki, hk1, ha, ha', hlt, hwk, hb8, hb9, hb10, ri, hbo, hP, hO2, map_rowInt, h2l', hml', hci, hcc]) | (refine Also.intro ?_ fun _ => ?_) | (refine Hold.intro fun _ => ?_) | (refine And.intro ?_ ?_))
    refine ⟨⟨k + 1, by omega⟩, tle_chain rfl ?_, (by (try simp -dsimp only [hpush_noH, hpush_hps, hps_over]); refine hle_hps ?_; simp -dsimp [allK, ]; repeat' (first | (refine And.intro ?_ ?_) | (refine sLe.same ?_ ?_ <;> (simp; done)) | (refine sLe.clear ?_ ?_ <;> (first | (simp; done) | (simp; omega))) | (refine sLe.drop 1 ?_ ?_ ?_ <;> (simp; done)))), by simp only; omega⟩
    simp [okAll, okv, hSn, ints]
  · have hSn : rTo (rPlans fl f) fl b left (k + 1) = some m := by rw [hS]; simp only [upd2]; rw [if_neg hcc]
    have hci : ¬ ((chg l2 : Nat) : Int) < (chg m : Nat) := by omega
    simp -dsimp [hki]
    repeat' (first | omega | (simp -dsimp [E79, ri, cellp, ints, hki, hk1, ha, ha', hlt, hwk, hb8, hb9, hb10, ri, hbo, hP, hO2, map_rowInt, h2l', hml', hci, hcc]) | (refine Also.intro ?_ fun _ => ?_) | (refine Hold.intro fun _ => ?_) | (refine And.intro ?_ ?_))
    refine ⟨⟨k + 1, by omega⟩, tle_chain rfl ?_, (by (try simp -dsimp only [hpush_noH, hpush_hps, hps_over]); refine hle_hps ?_; simp -dsimp [allK, ]; repeat' (first | (refine And.intro ?_ ?_) | (refine sLe.same ?_ ?_ <;> (simp; done)) | (refine sLe.clear ?_ ?_ <;> (first | (simp; done) | (simp; omega))) | (refine sLe.drop 1 ?_ ?_ ?_ <;> (simp; done)))), by simp only; omega⟩
    simp [okAll, okv, hSn, ints]
theorem ok79 : ∀ M, FnOK Tryd.prog 79 (.pure (plansS M))
  | 0 => { call := run_call (fn := Tryd.f79) (by kernel_rfl) (by kernel_rfl) rfl, iter := fun S' hS => (by cases hS), heap := fun S' hS => (by cases hS), pure := fun S' hS => (by
      cases hS
      intro d hd
      exact absurd hd.lt (by have := hd.le; omega)) }
  | M + 1 => pure_fn (E := E79 M) rfl (.cons ok46 (.cons (ok79 M) .nil)) (ok := []) (fn := Tryd.f79) (by kernel_rfl) (by kernel_rfl) (by kernel_rfl) (by kernel_rfl) rfl (fun _ _ => by simp) (b79 M)
def planO (sp fl : List Int) : Option (List Int) := rPlans fl fl.length [] sp
def planE (sp fl : List Int) : Int := if planChk sp fl = 0 then (if (planO sp fl).isSome = true then 0 else 3) else 1
def planL (sp fl : List Int) : List Int := if planChk sp fl = 0 then (planO sp fl).getD [] else []
def planC (sp fl : List Int) : Nat := if planChk sp fl = 0 then chg ((planO sp fl).getD []) else 0
theorem chk_facts {sp fl : List Int} (h : planChk sp fl = 0) : withinB sp.length 1 6 = true ∧ fl.length ≤ 8 ∧ sp.any (hrB false) = false ∧ fl.any (hrB true) = false ∧ 1 ≤ sp.length ∧ sp.length ≤ 6 := by
  unfold planChk at h
  split at h
  · rename_i hh
    have := hh.1.1
    simp only [withinB, decide_eq_true_eq] at this
    exact ⟨hh.1.1, hh.1.2, hh.2.1, hh.2.2, by omega, by omega⟩
  · omega
theorem planO_len {sp fl l : List Int} (h : planO sp fl = some l) : l.length = fl.length := by
  obtain ⟨r, h1, h2⟩ := rPlans_ext fl _ _ _ _ h
  rw [h1]; simp [h2]
abbrev planS : PSpec := { dom := SF, enc := fun d => [ints d.sp, ints d.fl], dec := fun l => ⟨(l.getD 0 .top).toInts, (l.getD 1 .top).toInts⟩, pre := SF.Fine, res := fun d => .tup [ints (planL d.sp d.fl), .int .i64 (planC d.sp d.fl : Nat), .int .i64 (planE d.sp d.fl)] }
noncomputable abbrev E43 : Env := { P := Tryd.prog, fn := tbl [(44, .pure cpS), (46, .pure chS), (79, .pure (plansS 9))], own := [], key := 4300, nt := 27 }
theorem b43 : PureBody E43 [] Tryd.f43 planS := by
  refine pb ?_
  rintro ⟨sp, fl⟩ ⟨b1, b2⟩
  simp only at b1 b2
  have hF : SF.Fine ⟨sp, fl⟩ := ⟨b1, b2⟩
  by_cases hC : planChk sp fl = 0
  case neg =>
    have hC1 : planChk sp fl = 1 := by
      unfold planChk at hC ⊢
      split
      · rename_i h; rw [if_pos h] at hC; exact absurd rfl hC
      · rfl
    have e1 : planL sp fl = [] := by simp [planL, hC]
    have e2 : planC sp fl = 0 := by simp [planC, hC]
    have e3 : planE sp fl = 1 := by simp [planE, hC]
    simp -dsimp [Tryd.f43, E43, ints]
    repeat' (first | omega | (simp -dsimp [E43, ri, cellp, ints, hF, hC1, e1, e2, e3, ints]) | (refine Also.intro ?_ fun _ => ?_) | (refine Hold.intro fun _ => ?_) | (refine And.intro ?_ ?_))
  obtain ⟨_, h2, _, _, h3, h4⟩ := chk_facts hC
  have hP : PlP 9 ⟨[], sp, fl⟩ := ⟨by simp, by simp; omega, by simp only; omega, by simp only; omega⟩
  have hO : (⟨[], sp, fl⟩ : PlD).o = planO sp fl := by simp [PlD.o, planO]
  have hlen := fun l => planO_len (sp := sp) (fl := fl) (l := l)
  have e1 : planL sp fl = (planO sp fl).getD [] := by simp [planL, hC]
  have e2 : planC sp fl = chg ((planO sp fl).getD []) := by simp [planC, hC]
  have e3 : planE sp fl = if (planO sp fl).isSome = true then 0 else 3 := by simp [planE, hC]
  rw [e1, e2, e3]
  clear e1 e2 e3
  rcases hO2 : planO sp fl with _ | l
  · rw [hO2] at hO
    have hc0 : chg [] = 0 := rfl
    simp -dsimp [Tryd.f43, E43, ints]
    repeat' (first | omega | (simp -dsimp [E43, ri, cellp, ints, hF, hC, hP, hO, ints, hc0]) | (refine Also.intro ?_ fun _ => ?_) | (refine Hold.intro fun _ => ?_) | (refine And.intro ?_ ?_))
  · rw [hO2] at hO
    have hl := hlen l hO2
    have hl' : l.length ≤ 1000000 := by omega
    simp -dsimp [Tryd.f43, E43, ints]
    repeat' (first | omega | (simp -dsimp [E43, ri, cellp, ints, hF, hC, hP, hO, ints, hl']) | (refine Also.intro ?_ fun _ => ?_) | (refine Hold.intro fun _ => ?_) | (refine And.intro ?_ ?_))
theorem ok43 : FnOK Tryd.prog 43 (.pure planS) := pure_fn (E := E43) rfl (.cons ok44 (.cons ok46 (.cons (ok79 9) .nil))) (ok := []) (fn := Tryd.f43) (by kernel_rfl) (by kernel_rfl) (by kernel_rfl) (by kernel_rfl) rfl (fun _ _ => by simp) b43
noncomputable def cloS : HSpec where
  go args h := match args with
    | [.sl z els] => ⟨(z = 1 ∧ els ≠ []) ∧ els.length * 8 ≤ 140737488355328, .bsl 7805 (hnext h 7805) els.length, hpush h 7805 { z := 1, els := els, ty := 3 }⟩
    | _ => ⟨False, .top, h⟩
noncomputable abbrev E78 : Env := { P := Tryd.prog, fn := tbl [], own := [5], key := 7800, nt := 8 }
theorem b78 : HeapBody E78 [] Tryd.f78 cloS := by
  intro args h hc
  match args, hc with
  | [.sl z els], hc =>
    obtain ⟨⟨rfl, hne⟩, hb⟩ := hc
    have hn := fun B => hget_push_new h 7805 B
    simp -dsimp [Tryd.f78, E78, cloS]
    repeat' (first | omega | (simp -dsimp [E78, ri, cellp, ints, hne, hb, hn]) | (refine Also.intro ?_ fun _ => ?_) | (refine Hold.intro fun _ => ?_) | (refine And.intro ?_ ?_))
    exact HLe.of_eq (hset_push h 7805 _ _)
theorem ok78 : FnOK Tryd.prog 78 (.heap cloS) := heap_fn (E := E78) rfl LOK.nil (ok := []) (fn := Tryd.f78) (by kernel_rfl) (by kernel_rfl) (by kernel_rfl) (by kernel_rfl) rfl (fun args h hc => by match args, hc with | [.sl z els], hc => simp) b78
theorem cloS_go (els : List (List V)) (z : Nat) (h : Hp) : cloS.go [.sl z els] h = ⟨(z = 1 ∧ els ≠ []) ∧ els.length * 8 ≤ 140737488355328, .bsl 7805 (hnext h 7805) els.length, hpush h 7805 { z := 1, els := els, ty := 3 }⟩ := rfl
theorem pl_start1 (fl sp : List Int) : hps [(4231, { base := 0, blks := [{ z := 1, els := List.replicate fl.length [V.int .i64 0], ty := 3 }] }), (7805, { base := 0, blks := [{ z := 1, els := List.map ri sp, ty := 3 }] }), (4225, { base := 0, blks := [{ z := 3, els := [[V.sl 1 (List.map ri fl), V.nil, V.int .i64 0]], ty := 128 }] })] noH
    = Ob plL ⟨fl, none, 0, 0, true, sp, List.replicate fl.length 0⟩ noH := by
  funext k
  simp only [Ob, plL, hps, List.map_replicate, ri, bestV, bestB]
  by_cases h1 : k = 4225
  · subst h1; simp
  by_cases h2 : k = 7805
  · subst h2; simp
  by_cases h3 : k = 4231
  · subst h3; simp
  by_cases h4 : k = 7738
  · subst h4; simp [noH]
  simp [h1, h2, h3, h4]
theorem pl_start2 (fl sp : List Int) : hps [(7805, { base := 0, blks := [{ z := 1, els := List.map ri sp, ty := 3 }] }), (4231, { base := 0, blks := [{ z := 1, els := List.replicate fl.length [V.int .i64 0], ty := 3 }] }), (4225, { base := 0, blks := [{ z := 3, els := [[V.sl 1 (List.map ri fl), V.nil, V.int .i64 0]], ty := 128 }] })] noH
    = Ob plL ⟨fl, none, 0, 0, true, sp, List.replicate fl.length 0⟩ noH := by
  rw [← pl_start1]
  funext k
  simp only [hps]
  by_cases h2 : k = 7805
  · subst h2; simp
  simp [h2]
noncomputable abbrev E42 : Env := { P := Tryd.prog, fn := tbl [(52, .pure withinS), (74, .pure hanS), (77, .heap (lookS 9)), (78, .heap cloS)], own := [31], key := 4200, nt := 46 }
theorem b42 : PureBody E42 [(6, ([], [[0, 1, 2, 3, 4, 5, 6], [0, 1, 3, 4, 5, 2, 6]]))] Tryd.f42 planS := by
  refine pb ?_
  rintro ⟨sp, fl⟩ ⟨b1, b2⟩
  simp only at b1 b2
  have herr : planChk sp fl = 1 → planL sp fl = [] ∧ planC sp fl = 0 ∧ planE sp fl = 1 := fun h => by simp [planL, planC, planE, h]
  cases c1 : withinB sp.length 1 6
  · obtain ⟨e1, e2, e3⟩ := herr (by simp [planChk, c1])
    simp -dsimp [Tryd.f42, E42, ints]
    repeat' (first | omega | (simp -dsimp [E42, ri, cellp, ints, c1, e1, e2, e3, ints]) | (refine Also.intro ?_ fun _ => ?_) | (refine Hold.intro fun _ => ?_) | (refine And.intro ?_ ?_))
  cases c2 : sp.any (hrB false)
  case true =>
    obtain ⟨e1, e2, e3⟩ := herr (by simp [planChk, c2])
    simp -dsimp [Tryd.f42, E42, ints]
    repeat' (first | omega | (simp -dsimp [E42, ri, cellp, ints, c1, c2, hrF, hrE_dec0, b1, e1, e2, e3, ints]) | (refine Also.intro ?_ fun _ => ?_) | (refine Hold.intro fun _ => ?_) | (refine And.intro ?_ ?_))
  by_cases c3 : fl.length ≤ 8
  case neg =>
    obtain ⟨e1, e2, e3⟩ := herr (by simp [planChk, c3])
    have c3' : (8 : Int) < fl.length := by omega
    simp -dsimp [Tryd.f42, E42, ints]
    repeat' (first | omega | (simp -dsimp [E42, ri, cellp, ints, c1, c2, c3', hrF, hrE_dec0, b1, e1, e2, e3, ints]) | (refine Also.intro ?_ fun _ => ?_) | (refine Hold.intro fun _ => ?_) | (refine And.intro ?_ ?_))
  have c3' : ¬ (8 : Int) < fl.length := by omega
  cases c4 : fl.any (hrB true)
  case true =>
    obtain ⟨e1, e2, e3⟩ := herr (by simp [planChk, c4])
    simp -dsimp [Tryd.f42, E42, ints]
    repeat' (first | omega | (simp -dsimp [E42, ri, cellp, ints, c1, c2, c3', c4, hrF, hrE_dec0, hrE_dec1, b1, b2, e1, e2, e3, ints]) | (refine Also.intro ?_ fun _ => ?_) | (refine Hold.intro fun _ => ?_) | (refine And.intro ?_ ?_))
  have hC : planChk sp fl = 0 := by simp only [planChk]; rw [if_pos ⟨⟨c1, c3⟩, c2, c4⟩]
  obtain ⟨_, _, _, _, h3, h4⟩ := chk_facts hC
  have e1 : planL sp fl = (planO sp fl).getD [] := by simp [planL, hC]
  have e2 : planC sp fl = chg ((planO sp fl).getD []) := by simp [planC, hC]
  have e3 : planE sp fl = if (planO sp fl).isSome = true then 0 else 3 := by simp [planE, hC]
  rw [e1, e2, e3]
  clear e1 e2 e3
  have hne : sp ≠ [] := by rintro rfl; simp at h3
  have hb8 : sp.length * 8 ≤ 140737488355328 := by omega
  have hb9 : (fl.length : Int) * 8 ≤ 140737488355328 := by omega
  have hLk : LkP 9 ⟨fl, none, 0, 0, true, sp, List.replicate fl.length 0⟩ 0 := ⟨by simp, by simp, by simp only; omega, by simp only; omega, by simp only; omega⟩
  have hlb := look_best fl sp (List.replicate fl.length 0) (by simp) (by omega) 0 true 0
  have hgo := look_go 9 ⟨fl, none, 0, 0, true, sp, List.replicate fl.length 0⟩ 0 sp.length fl.length 0 rfl (by simp) noH
  have hs1 := pl_start1 fl sp
  have hs2 := pl_start2 fl sp
  simp only [Nat.sub_zero] at hgo
  rw [eq_true hLk, p_p] at hgo
  generalize look fl.length ⟨fl, none, 0, 0, true, sp, List.replicate fl.length 0⟩ 0 0 = T at hlb hgo
  have hg1 := hgo
  rw [← hs1] at hg1
  have hg2 := hgo
  rw [← hs2] at hg2
  clear hgo hs1 hs2 hLk
  obtain ⟨t1, t2⟩ := hlb
  have t1 : T.best = planO sp fl := t1
  have t2 : ∀ m, planO sp fl = some m → T.ch = (chg m : Nat) := t2
  rcases hO : planO sp fl with _ | _ | ⟨x, xs⟩
  · have hbv : bestV T.bi T.best = .nil := by rw [t1, hO]; rfl
    have hc0 : chg [] = 0 := rfl
    simp -dsimp [Tryd.f42, E42, ints]
    repeat' (first | omega | (simp -dsimp [E42, ri, cellp, ints, c1, c2, c3', c4, hrF, hrE_dec0, hrE_dec1, b1, b2, cloS_go, hne, hb8, hb9, ints, hg1, hg2, hbv, hc0]) | (refine Also.intro ?_ fun _ => ?_) | (refine Hold.intro fun _ => ?_) | (refine And.intro ?_ ?_))
  · have hbv : bestV T.bi T.best = .emp := by rw [t1, hO]; rfl
    have hch := t2 _ hO
    simp -dsimp [Tryd.f42, E42, ints]
    repeat' (first | omega | (simp -dsimp [E42, ri, cellp, ints, c1, c2, c3', c4, hrF, hrE_dec0, hrE_dec1, b1, b2, cloS_go, hne, hb8, hb9, ints, hg1, hg2, hbv, hch]) | (refine Also.intro ?_ fun _ => ?_) | (refine Hold.intro fun _ => ?_) | (refine And.intro ?_ ?_))
  · have hbv : bestV T.bi T.best = .osl 7738 T.bi (xs.length + 1) 0 (xs.length + 1) (xs.length + 1) := by rw [t1, hO]; rfl
    have hbb : bestB T.best = [{ z := 1, els := (x :: xs).map ri, ty := 3 }] := by rw [t1, hO]; rfl
    have hch := t2 _ hO
    have htk : List.take (xs.length + 1) ([V.int .i64 x] :: List.map ri xs) = [V.int .i64 x] :: List.map ri xs := List.take_of_length_le (by simp)
    simp -dsimp [Tryd.f42, E42, ints]
    repeat' (first | omega | (simp -dsimp [E42, ri, cellp, ints, c1, c2, c3', c4, hrF, hrE_dec0, hrE_dec1, b1, b2, cloS_go, hne, hb8, hb9, ints, hg1, hg2, hbv, hbb, hch, htk, ri]) | (refine Also.intro ?_ fun _ => ?_) | (refine Hold.intro fun _ => ?_) | (refine And.intro ?_ ?_))
theorem ok42 : FnOK Tryd.prog 42 (.pure planS) := pure_fn (E := E42) rfl (.cons ok52 (.cons Hr.ok74 (.cons (ok77 9) (.cons ok78 .nil)))) (ok := [(6, ([], [[0, 1, 2, 3, 4, 5, 6], [0, 1, 3, 4, 5, 2, 6]]))]) (fn := Tryd.f42) (by kernel_rfl) (by kernel_rfl) (by kernel_rfl) (by kernel_rfl) rfl (fun _ _ => by simp) b42
end Go.Sx
end
section
/- Parts: what only reads a hangar, part 3. No conditions. -/
set_option linter.unusedSimpArgs false
set_option linter.unusedSectionVars false
set_option maxRecDepth 100000
set_option maxHeartbeats 1000000
namespace Go.Sx
open Go.Proofs

def HI.emp (x : HI) (m : Int) (k j : Nat) : Bool := decide (x.at k m j < 0)
def HI.lackK (x : HI) (m : Int) (k : Nat) : Nat → List (Int × Int)
  | 0 => []
  | j + 1 => if x.emp m k j = true then x.lackK m k j ++ [((k : Int), (j : Int))] else x.lackK m k j
def HI.places (x : HI) (k : Nat) : Nat := (x.r.kinds.getD k default).places.toNat
def HI.lackTo (x : HI) (m : Int) : Nat → List (Int × Int)
  | 0 => []
  | k + 1 => x.lackTo m k ++ x.lackK m k (x.places k)
def HI.lacks (x : HI) (m : Int) : List (Int × Int) := x.lackTo m x.r.kinds.length
theorem lackK_len (x : HI) (m : Int) (k : Nat) : ∀ j, (x.lackK m k j).length ≤ j
  | 0 => by simp [HI.lackK]
  | j + 1 => by
    have := lackK_len x m k j
    simp only [HI.lackK]; split <;> simp <;> omega
structure HI.Small (x : HI) : Prop where
  ps : x.ps.length ≤ 1000
  kinds : x.r.kinds.length ≤ 1000
  places : ∀ kd ∈ x.r.kinds, kd.places ≤ 1000
theorem places_le {x : HI} (hs : x.Small) (k : Nat) : x.places k ≤ 1000 := by
  unfold HI.places
  by_cases hk : k < x.r.kinds.length
  · have := hs.places _ (List.getElem_mem hk)
    simp only [List.getD, List.getElem?_eq_getElem hk, Option.getD_some]
    omega
  · simp only [List.getD, List.getElem?_eq_none (by omega : x.r.kinds.length ≤ k), Option.getD_none]
    decide
theorem lackTo_len {x : HI} (hs : x.Small) (m : Int) : ∀ k, (x.lackTo m k).length ≤ 1000 * k
  | 0 => by simp [HI.lackTo]
  | k + 1 => by
    have h1 := lackTo_len hs m k
    have h2 := lackK_len x m k (x.places k)
    have h3 := places_le hs k
    simp only [HI.lackTo, List.length_append]; omega
theorem haE_dec' (x : HI) (k a b : Int) : decC haE [.ip 9 [[.sl 3 (x.r.kinds.map Kd.row), .sl 4 (x.r.parts.map Pt.row), .int .i64 x.r.machines, .sl 2 (x.r.orders.map Od.row), ptsI x.ps, .sl 1 (x.iss.map rb), x.v1, x.v2, x.v3]] 0 0, .int .i64 k, .agg [.int .i64 a, .int .i64 b]] = (x, k, a, b) := haE_dec x k a b
noncomputable abbrev lacksS : PSpec := mkP hiE (fun d => d.1.Small) fun d => prs (d.1.lacks d.2)
noncomputable abbrev E66 : Env := { P := Tryd.prog, fn := tbl [(90, .pure haS)], own := [], key := 6600, nt := 40 }
theorem b66 : PureBody E66 [] Tryd.f66 lacksS := by
  refine pb ?_
  rintro ⟨x, m⟩ hsm
  simp only at hsm
  have hsm1 := hsm.ps
  have hsm2 := hsm.kinds
  have h92 : x.ps.length ≤ 9223372036854775807 := by omega
  simp -dsimp [Tryd.f66, E66, HI.v]
  repeat' (first | omega | (simp -dsimp [E66, ri, cellp, ints, HI.v]) | (refine Also.intro ?_ fun _ => ?_) | (refine Hold.intro fun _ => ?_) | (refine And.intro ?_ ?_))
  refine awp_loop_g [(4, 6636, 2, 30)] rfl (by simp) [15, 16, 17, 18, 6, 5, 19, 20, 21, 22, 23, 7, 24, 25, 26, 27, 28, 29, 30, 31, 32, 33, 34, 35, 36, 4, 37, 38, 14] (fun k : Fin (x.r.kinds.length + 1) => [(14, (true, .int .i64 (k.1 : Nat))), (4, (true, .bsl 6636 0 (x.lackTo m k.1).length))])
    (fun k => hps [(6636, { base := 0, blks := [{ z := 2, els := (x.lackTo m k.1).map cycV, ty := 30 }] }), (6606, { base := k.1, blks := [] })] noH) (fun k => x.r.kinds.length - k.1) ⟨0, by omega⟩ ?_ ?_ ?_
  · simp [okAll, okv, HI.lackTo]
  · exact (by (try simp -dsimp only [hpush_noH, hpush_hps, hps_over]); refine hle_hps ?_; simp -dsimp [allK, HI.lackTo]; repeat' (first | (refine And.intro ?_ ?_) | (refine sLe.same ?_ ?_ <;> (simp; done)) | (refine sLe.clear ?_ ?_ <;> (first | (simp; done) | (simp; omega))) | (refine sLe.drop 1 ?_ ?_ ?_ <;> (simp; done))))
  rintro ⟨k, hk⟩
  simp only
  by_cases hk1 : k < x.r.kinds.length
  · have hki : (k : Int) < x.r.kinds.length := by omega
    have wk : IntKind.wrap .i64 ((k : Int) + 1) = (k + 1 : Nat) := wrap_id (by omega) (by omega)
    obtain ⟨kd, hkd, hkd'⟩ := get_ex hk1
    have hT : x.lackTo m (k + 1) = x.lackTo m k ++ x.lackK m k (x.places k) := rfl
    have hpl : x.places k = kd.places.toNat := by simp [HI.places, List.getD, hkd]
    have hTl := lackTo_len hsm m k
    have hpk := places_le hsm k
    rw [hpl] at hT hpk
    generalize x.lackTo m k = T at *
    generalize hpn : kd.places.toNat = pn at *
    simp -dsimp [hki]
    repeat' (first | omega | (simp -dsimp [E66, ri, cellp, ints, hki, hk1, hkd, hkd', wk, Kd.row]) | (refine Also.intro ?_ fun _ => ?_) | (refine Hold.intro fun _ => ?_) | (refine And.intro ?_ ?_))
    refine awp_loop [22, 23, 7, 24, 25, 26, 27, 28, 29, 30, 31, 32, 33, 34, 35, 36, 4, 37, 21] (fun j : Fin (pn + 1) => [(21, (true, .int .i64 (j.1 : Nat))), (4, (true, .bsl 6636 0 (T ++ x.lackK m k j.1).length))])
      (fun j => hps [(6636, { base := 0, blks := [{ z := 2, els := (T ++ x.lackK m k j.1).map cycV, ty := 30 }] }), (6606, { base := k + 1, blks := [] })] noH) (fun j => pn - j.1) ⟨0, by omega⟩ ?_ ?_ ?_
    · simp [okAll, okv, HI.lackK]
    · exact (by (try simp -dsimp only [hpush_noH, hpush_hps, hps_over]); refine hle_hps ?_; simp -dsimp [allK, HI.lackK]; repeat' (first | (refine And.intro ?_ ?_) | (refine sLe.same ?_ ?_ <;> (simp; done)) | (refine sLe.clear ?_ ?_ <;> (first | (simp; done) | (simp; omega))) | (refine sLe.drop 1 ?_ ?_ ?_ <;> (simp; done))))
    rintro ⟨j, hj⟩
    simp only
    by_cases hj1 : j < pn
    · have hji : (j : Int) < kd.places := by omega
      have wj : IntKind.wrap .i64 ((j : Int) + 1) = (j + 1 : Nat) := wrap_id (by omega) (by omega)
      have hL : x.lackK m k (j + 1) = if x.emp m k j = true then x.lackK m k j ++ [((k : Int), (j : Int))] else x.lackK m k j := rfl
      have hLl := lackK_len x m k j
      have hem : x.emp m k j = decide (x.at k m j < 0) := rfl
      generalize x.lackK m k j = L at *
      by_cases he : x.at k m j < 0
      · rw [hem, decide_eq_true he, if_pos rfl] at hL
        have hb8 : (T.length + L.length + 1) * 16 ≤ 140737488355328 := by omega
        simp -dsimp [hji]
        repeat' (first | omega | (simp -dsimp [E66, ri, cellp, ints, hji, HI.v, haE_dec', h92, he, wj, hb8, cycV]) | (refine Also.intro ?_ fun _ => ?_) | (refine Hold.intro fun _ => ?_) | (refine And.intro ?_ ?_))
        refine ⟨⟨j + 1, by omega⟩, tle_chain rfl ?_, (by (try simp -dsimp only [hpush_noH, hpush_hps, hps_over]); refine hle_hps ?_; simp -dsimp [allK, hL, cycV]; repeat' (first | (refine And.intro ?_ ?_) | (refine sLe.same ?_ ?_ <;> (simp; done)) | (refine sLe.clear ?_ ?_ <;> (first | (simp; done) | (simp; omega))) | (refine sLe.drop 1 ?_ ?_ ?_ <;> (simp; done)))), by simp only; omega⟩
        simp [okAll, okv, hL, Nat.add_assoc]
      · rw [hem, decide_eq_false he, if_neg (by simp)] at hL
        simp -dsimp [hji]
        repeat' (first | omega | (simp -dsimp [E66, ri, cellp, ints, hji, HI.v, haE_dec', h92, he, wj, cycV]) | (refine Also.intro ?_ fun _ => ?_) | (refine Hold.intro fun _ => ?_) | (refine And.intro ?_ ?_))
        refine ⟨⟨j + 1, by omega⟩, tle_chain rfl ?_, (by (try simp -dsimp only [hpush_noH, hpush_hps, hps_over]); refine hle_hps ?_; simp -dsimp [allK, hL, cycV]; repeat' (first | (refine And.intro ?_ ?_) | (refine sLe.same ?_ ?_ <;> (simp; done)) | (refine sLe.clear ?_ ?_ <;> (first | (simp; done) | (simp; omega))) | (refine sLe.drop 1 ?_ ?_ ?_ <;> (simp; done)))), by simp only; omega⟩
        simp [okAll, okv, hL]
    · have hje : j = pn := by omega
      have hjn : ¬ (j : Int) < kd.places := by omega
      simp -dsimp [hjn]
      repeat' (first | omega | (simp -dsimp [E66, ri, cellp, ints, hjn, wk]) | (refine Also.intro ?_ fun _ => ?_) | (refine Hold.intro fun _ => ?_) | (refine And.intro ?_ ?_))
      refine ⟨⟨k + 1, by omega⟩, tle_kept (kept_upds rfl (kept_forget rfl (kept_upds rfl kept_base))) ?_, (by (try simp -dsimp only [hpush_noH, hpush_hps, hps_over]); refine hle_hps ?_; simp -dsimp [allK, hT, hje]; repeat' (first | (refine And.intro ?_ ?_) | (refine sLe.same ?_ ?_ <;> (simp; done)) | (refine sLe.clear ?_ ?_ <;> (first | (simp; done) | (simp; omega))) | (refine sLe.drop 1 ?_ ?_ ?_ <;> (simp; done)))), by simp only; omega⟩
      simp [okAll, okv, hT, hje]
  · have hkn : ¬ (k : Int) < x.r.kinds.length := by omega
    have hke : k = x.r.kinds.length := by omega
    subst hke
    simp -dsimp [hkn]
    repeat' (first | omega | (simp -dsimp [E66, ri, cellp, ints, hkn, HI.lacks, prs]) | (refine Also.intro ?_ fun _ => ?_) | (refine Hold.intro fun _ => ?_) | (refine And.intro ?_ ?_))
theorem ok66 : FnOK Tryd.prog 66 (.pure lacksS) := pure_fn (E := E66) rfl (.cons ok90 .nil) (ok := []) (fn := Tryd.f66) (by kernel_rfl) (by kernel_rfl) (by kernel_rfl) (by kernel_rfl) rfl (fun _ _ => by simp) b66
theorem hpE_dec' (x : HI) (p : PS) : decC hpE [.ip 9 [[.sl 3 (x.r.kinds.map Kd.row), .sl 4 (x.r.parts.map Pt.row), .int .i64 x.r.machines, .sl 2 (x.r.orders.map Od.row), ptsI x.ps, .sl 1 (x.iss.map rb), x.v1, x.v2, x.v3]] 0 0, .ip 8 [[.int .i64 p.kind, .int .i64 p.hours, .int .i64 p.cycles, .bool p.known, .int .i64 p.a, .int .i64 p.b, .sl 1 (p.since.map ri), .sl 1 (p.chk.map rb)]] 0 0] = (x, p) := hpE_dec x p
theorem hiE_dec' (x : HI) (n : Int) : decC hiE [.ip 9 [[.sl 3 (x.r.kinds.map Kd.row), .sl 4 (x.r.parts.map Pt.row), .int .i64 x.r.machines, .sl 2 (x.r.orders.map Od.row), ptsI x.ps, .sl 1 (x.iss.map rb), x.v1, x.v2, x.v3]] 0 0, .int .i64 n] = (x, n) := hiE_dec x n
/-- The least of what the parts in a machine can still fly; -1 if one of them cannot fly the cycles. -/
def HI.longG (x : HI) (m cyc : Int) : List PS → Int → Int
  | [], most => most
  | p :: r, most => if p.a = m then (if x.leftC p < cyc then -1 else x.longG m cyc r (imin most (x.leftT p))) else x.longG m cyc r most
def HI.longest (x : HI) (m cyc : Int) : Int := if x.lacks m = [] then x.longG m cyc x.ps 100 else -1
@[simp] def hmE (d : HI × Int × Int) : List V := [d.1.v, .int .i64 d.2.1, .int .i64 d.2.2]
theorem hmE_inj (a b : HI × Int × Int) (h : hmE a = hmE b) : a = b := by
  obtain ⟨x, a1, a2⟩ := a
  obtain ⟨y, b1, b2⟩ := b
  simp only [hmE, List.cons.injEq, V.int.injEq, true_and, and_true] at h
  rw [HI.v_inj _ _ h.1, h.2.1, h.2.2]
theorem hmE_dec (x : HI) (m c : Int) : decC hmE [x.v, .int .i64 m, .int .i64 c] = (x, m, c) := decC_eq hmE_inj (x, m, c)
noncomputable abbrev longestS : PSpec := mkP hmE (fun d => d.1.Small ∧ ∀ p ∈ d.1.ps, d.1.Fit p) fun d => .int .i64 (d.1.longest d.2.1 d.2.2)
structure LgI (n : Nat) (P : Nat → Int → Prop) where
  k : Nat
  most : Int
  hk : k ≤ n
  h : P k most
noncomputable abbrev E53 : Env := { P := Tryd.prog, fn := tbl [(66, .pure lacksS), (62, .pure leftS)], own := [], key := 5300, nt := 47 }
theorem b53 : PureBody E53 [] Tryd.f53 longestS := by
  refine pb ?_
  rintro ⟨x, m, cyc⟩ ⟨hsm, hfit⟩
  simp only at hsm hfit
  have hsm1 := hsm.ps
  by_cases hl : x.lacks m = []
  case neg =>
    have hl' : (0 : Int) < (x.lacks m).length := by
      have : 0 < (x.lacks m).length := List.length_pos_iff.2 hl
      omega
    have hl2 : 0 < (x.lacks m).length := by omega
    simp -dsimp [Tryd.f53, E53, HI.v]
    repeat' (first | omega | (simp -dsimp [E53, ri, cellp, ints, HI.v, hiE_dec', hsm, hl, hl', hl2, prs, HI.longest]) | (refine Also.intro ?_ fun _ => ?_) | (refine Hold.intro fun _ => ?_) | (refine And.intro ?_ ?_))
  simp -dsimp [Tryd.f53, E53, HI.v]
  repeat' (first | omega | (simp -dsimp [E53, ri, cellp, ints, HI.v, hiE_dec', hsm, hl, prs]) | (refine Also.intro ?_ fun _ => ?_) | (refine Hold.intro fun _ => ?_) | (refine And.intro ?_ ?_))
  refine awp_loop [23, 24, 25, 9, 26, 27, 28, 29, 30, 31, 32, 34, 35, 36, 33, 37, 38, 10, 11, 39, 40, 41, 6, 42, 43, 44, 7, 45, 22] (fun q : LgI x.ps.length fun k most => x.longG m cyc (x.ps.drop k) most = x.longest m cyc => [(22, (true, .int .i64 (q.k : Nat))), (7, (true, .int .i64 q.most))]) (fun _ => noH) (fun q => x.ps.length - q.k) ⟨0, 100, by simp, by simp [HI.longest, hl]⟩ ?_ (HLe.refl _) ?_
  · simp [okAll, okv]
  rintro ⟨k, most, hk, hq⟩
  simp only at hk hq ⊢
  by_cases hk1 : k < x.ps.length
  · have hki : (k : Int) < x.ps.length := by omega
    have hp := ptsI_ne (ps := x.ps) (by omega)
    have wk : IntKind.wrap .i64 ((k : Int) + 1) = (k + 1 : Nat) := wrap_id (by omega) (by omega)
    obtain ⟨p, hpk, hpk'⟩ := get_ex hk1
    have hd : x.ps.drop k = p :: x.ps.drop (k + 1) := by rw [List.drop_eq_getElem_cons hk1, hpk']
    have hdd := fun p : PS => hpE_dec' x p
    simp only [hp, ptI, PS.irow] at hdd
    have hf := hfit p (hpk' ▸ List.getElem_mem hk1)
    rw [hd, HI.longG] at hq
    by_cases hm : p.a = m
    · rw [if_pos hm] at hq
      subst hm
      by_cases hc : x.leftC p < cyc
      · rw [if_pos hc] at hq
        simp -dsimp [hki, hp]
        repeat' (first | omega | (simp -dsimp [E53, ri, cellp, ints, hki, hp, hpk, hpk', hk1, ptI, PS.irow, HI.v, hdd, hf, hc, hq.symm]) | (refine Also.intro ?_ fun _ => ?_) | (refine Hold.intro fun _ => ?_) | (refine And.intro ?_ ?_))
      · rw [if_neg hc] at hq
        simp -dsimp [hki, hp]
        repeat' (first | omega | (simp -dsimp [E53, ri, cellp, ints, hki, hp, hpk, hpk', hk1, ptI, PS.irow, HI.v, hdd, hf, hc, wk]) | (refine Also.intro ?_ fun _ => ?_) | (refine Hold.intro fun _ => ?_) | (refine And.intro ?_ ?_))
        refine ⟨⟨k + 1, imin most (x.leftT p), by omega, hq⟩, tle_chain rfl ?_, HLe.refl _, by simp only; omega⟩
        simp [okAll, okv]
        by_cases hlt : x.leftT p < most <;> simp [imin, hlt]
    · rw [if_neg hm] at hq
      simp -dsimp [hki, hp]
      repeat' (first | omega | (simp -dsimp [E53, ri, cellp, ints, hki, hp, hpk, hpk', hk1, hm, ptI, PS.irow, wk]) | (refine Also.intro ?_ fun _ => ?_) | (refine Hold.intro fun _ => ?_) | (refine And.intro ?_ ?_))
      refine ⟨⟨k + 1, most, by omega, hq⟩, tle_chain rfl ?_, HLe.refl _, by simp only; omega⟩
      simp [okAll, okv]
  · have hkn : ¬ (k : Int) < x.ps.length := by omega
    have hke : k = x.ps.length := by omega
    subst hke
    simp only [List.drop_length, HI.longG] at hq
    simp -dsimp [hkn]
    repeat' (first | omega | (simp -dsimp [E53, ri, cellp, ints, hkn, hq]) | (refine Also.intro ?_ fun _ => ?_) | (refine Hold.intro fun _ => ?_) | (refine And.intro ?_ ?_))
theorem ok53 : FnOK Tryd.prog 53 (.pure longestS) := pure_fn (E := E53) rfl (.cons ok66 (.cons ok62 .nil)) (ok := []) (fn := Tryd.f53) (by kernel_rfl) (by kernel_rfl) (by kernel_rfl) (by kernel_rfl) rfl (fun _ _ => by simp) b53
end Go.Sx
end
