/- A part of a proof; no conditions. -/
import Derived.Test.YtnpdjaikmdagmaaGreatDoorP17
import Derived.Test.YtnpdjaikmdagmaaGreatDoorP21
import Derived.Test.YtnpdjaikmdagmaaGreatDoorP10
import Derived.Shelf.GgSortFunc.RowK
import Derived.Sort.Grow
import Derived.Shelf.Sort.Plain
import Derived.Shelf.Slices.In.SortNone
import Derived.Test.YtnpdjaikmdagmaaGreatDoorP12
set_option linter.unusedSimpArgs false
set_option linter.unusedVariables false
set_option linter.unusedSectionVars false
section
/- Parts: Suspects' own closure, its search, slices.Compact of an owned slice. No conditions. -/
set_option linter.unusedSimpArgs false
set_option linter.unusedSectionVars false
set_option maxRecDepth 100000
set_option maxHeartbeats 4000000
namespace Go.Sx
open Go.Proofs
attribute [local irreducible] HLe

structure SgD where
  x : HI
  a : Int
  b : Int
  deriving Inhabited
def hiC (x : HI) : V := .ip 1 [[x.v]] 0 0
theorem hiC_inj (a b : HI) (h : hiC a = hiC b) : a = b := HI.v_inj _ _ (by simpa [hiC] using h)
@[simp] def sgE (d : SgD) : List V := [.agg [.int .i64 d.a, .int .i64 d.b], hiC d.x]
theorem sgE_inj (x y : SgD) (h : sgE x = sgE y) : x = y := by
  obtain ⟨x, a, b⟩ := x; obtain ⟨x', a', b'⟩ := y
  simp only [sgE, List.cons.injEq, V.agg.injEq, V.int.injEq, true_and, and_true] at h
  rw [hiC_inj _ _ h.2, h.1.1, h.1.2]
theorem sgE_dec (x : HI) (a b : Int) : decC sgE [.agg [.int .i64 a, .int .i64 b], .ip 1 [[x.v]] 0 0] = ⟨x, a, b⟩ := decC_eq sgE_inj ⟨x, a, b⟩
def HI.badPl (x : HI) (p : Int × Int) : Bool := !withinB p.1 0 (wsub x.r.kinds.length 1) || !withinB p.2 0 (wsub (x.r.kinds.getD p.1.toNat default).places 1)
noncomputable abbrev sgS : PSpec := mkP sgE (fun d => d.x.r.kinds.length ≤ 9223372036854775807) fun d => .bool (d.x.badPl (d.a, d.b))
noncomputable abbrev E19 : Env := { P := Tryz.prog, fn := tbl [(20, .pure withinS)], own := [], key := 1900, nt := 32 }
theorem b19 : PureBody E19 [] Tryz.f19 sgS := by
  refine pb ?_
  rintro ⟨x, a, b⟩ hl
  have hl : x.r.kinds.length ≤ 9223372036854775807 := hl
  have hw : IntKind.wrap .i64 ((x.r.kinds.length : Int) - 1) = x.r.kinds.length - 1 := wrap_id (by omega) (by omega)
  cases h1 : withinB a 0 (x.r.kinds.length - 1)
  · simp -dsimp [Tryz.f19, E19, hiC, HI.v]
    repeat' (first | omega | (simp -dsimp [E19, ri, cellp, ints, hiC, HI.v, h1, hw, HI.badPl, wsub]) | (refine Also.intro ?_ fun _ => ?_) | (refine Hold.intro fun _ => ?_) | (refine And.intro ?_ ?_))
  · have ha : 0 ≤ a ∧ a ≤ x.r.kinds.length - 1 := by simpa [withinB] using h1
    obtain ⟨A, rfl⟩ : ∃ A : Nat, a = A := ⟨a.toNat, by omega⟩
    have hA : A < x.r.kinds.length := by omega
    obtain ⟨K, hK, hK'⟩ := get_ex hA
    have hAi : (A : Int) < x.r.kinds.length := by omega
    simp -dsimp [Tryz.f19, E19, hiC, HI.v]
    repeat' (first | omega | (simp -dsimp [E19, ri, cellp, ints, hiC, HI.v, h1, hw, hA, hAi, hK, hK', Kd.row, HI.badPl, wsub]) | (refine Also.intro ?_ fun _ => ?_) | (refine Hold.intro fun _ => ?_) | (refine And.intro ?_ ?_))
theorem ok19 : FnOK Tryz.prog 19 (.pure sgS) := pure_fn (E := E19) rfl (.cons ok20 .nil) (ok := []) (fn := Tryz.f19) (by kernel_rfl) (by kernel_rfl) (by kernel_rfl) (by kernel_rfl) rfl (fun _ _ => by simp) b19

structure SgL where
  x : HI
  l : List (Int × Int)
  deriving Inhabited
@[simp] def sgL (d : SgL) : List V := [.sl 2 (d.l.map cycV), .fn 19 [hiC d.x]]
theorem sgL_inj (x y : SgL) (h : sgL x = sgL y) : x = y := by
  obtain ⟨x, l⟩ := x; obtain ⟨x', l'⟩ := y
  simp only [sgL, List.cons.injEq, V.fn.injEq, V.sl.injEq, true_and, and_true] at h
  rw [hiC_inj _ _ h.2, cycV_inj h.1]
theorem sgL_dec (x : HI) (l : List (Int × Int)) : decC sgL [.sl 2 (l.map cycV), .fn 19 [.ip 1 [[x.v]] 0 0]] = ⟨x, l⟩ := decC_eq sgL_inj ⟨x, l⟩
structure SgP (d : SgL) : Prop where
  k : d.x.r.kinds.length ≤ 9223372036854775807
  n : d.l.length ≤ 9223372036854775807
noncomputable abbrev sgiS : PSpec := mkP sgL SgP fun d => .int .i64 (idxZ d.l d.x.badPl)
noncomputable abbrev sgaS : PSpec := mkP sgL SgP fun d => .bool (d.l.any d.x.badPl)
noncomputable abbrev E51 : Env := { P := Tryz.prog, fn := tbl [(19, .pure sgS)], own := [], key := 5100, nt := 19 }
theorem b51 : PureBody E51 [] Tryz.f51 sgiS := by
  refine pb ?_
  rintro ⟨x, l⟩ ⟨hk0, hl⟩
  simp only at hk0 hl
  simp -dsimp [Tryz.f51, E51, hiC]
  refine awp_loop [9, 10, 5, 11, 12, 13, 14, 15, 16, 17, 4, 18, 8] (fun k : { k : Nat // k ≤ l.length ∧ ∀ j (h : j < l.length), j < k → x.badPl l[j] = false } => [(8, (true, .int .i64 k.1))]) (fun _ => noH) (fun k => l.length - k.1) ⟨0, by omega, fun _ _ h => by omega⟩ ?_ (HLe.refl _) ?_
  · simp [okAll, okv]
  rintro ⟨k, hk, hall⟩
  by_cases hk1 : k < l.length
  · have hki : (k : Int) < l.length := by omega
    have wk : IntKind.wrap .i64 ((k : Int) + 1) = (k + 1 : Nat) := wrap_id (by omega) (by omega)
    obtain ⟨⟨a, b⟩, hg, hg'⟩ := get_ex hk1
    have hd := sgE_dec x a b
    cases hw : x.badPl (a, b)
    · simp -dsimp [hki]
      repeat' (first | omega | (simp -dsimp [E51, ri, cellp, ints, hki, hk1, hl, hk0, hw, wk, hg, hg', hd, cycV, hiC]) | (refine Also.intro ?_ fun _ => ?_) | (refine Hold.intro fun _ => ?_) | (refine And.intro ?_ ?_))
      refine ⟨k + 1, tle_chain rfl ?_, HLe.refl _, ⟨by omega, fun j h hj => ?_⟩, by omega⟩
      · simp [okAll, okv]
      · by_cases hjk : j = k
        · subst hjk; rw [hg']; exact hw
        · exact hall j h (by omega)
    · have hz := idxZ_at l x.badPl hk1 (by rw [hg']; exact hw) hall
      simp -dsimp [hki]
      repeat' (first | omega | (simp -dsimp [E51, ri, cellp, ints, hki, hk1, hl, hk0, hw, wk, hz, hg, hg', hd, cycV, hiC]) | (refine Also.intro ?_ fun _ => ?_) | (refine Hold.intro fun _ => ?_) | (refine And.intro ?_ ?_))
  · have hkn : ¬ (k : Int) < l.length := by omega
    have hz := idxZ_none l x.badPl (fun j h => hall j h (by omega))
    simp -dsimp [hkn]
    repeat' (first | omega | (simp -dsimp [E51, ri, cellp, ints, hkn, hz]) | (refine Also.intro ?_ fun _ => ?_) | (refine Hold.intro fun _ => ?_) | (refine And.intro ?_ ?_))
theorem ok51 : FnOK Tryz.prog 51 (.pure sgiS) := pure_fn (E := E51) rfl (.cons ok19 .nil) (ok := []) (fn := Tryz.f51) (by kernel_rfl) (by kernel_rfl) (by kernel_rfl) (by kernel_rfl) rfl (fun _ _ => by simp) b51
noncomputable abbrev E22 : Env := { P := Tryz.prog, fn := tbl [(51, .pure sgiS)], own := [], key := 2200, nt := 9 }
theorem b22 : PureBody E22 [] Tryz.f22 sgaS := by
  refine pb ?_
  rintro ⟨x, l⟩ hP
  have hz := idxZ_any l x.badPl
  have hd := sgL_dec x l
  simp -dsimp [Tryz.f22, E22, hiC]
  repeat' (first | omega | (simp -dsimp [E22, ri, cellp, ints, hP, hd, hz, hiC]) | (refine Also.intro ?_ fun _ => ?_) | (refine Hold.intro fun _ => ?_) | (refine And.intro ?_ ?_))
theorem ok22 : FnOK Tryz.prog 22 (.pure sgaS) := pure_fn (E := E22) rfl (.cons ok51 .nil) (ok := []) (fn := Tryz.f22) (by kernel_rfl) (by kernel_rfl) (by kernel_rfl) (by kernel_rfl) rfl (fun _ _ => by simp) b22

/-! Compact -/
def unri (r : List V) : Int := (r.getD 0 .top).toInt
theorem unri_map (l : List Int) : (l.map ri).map unri = l := by
  rw [List.map_map]
  conv => rhs; rw [← List.map_id l]
  exact List.map_congr_left fun x _ => rfl
def cpcV (s i : Nat) (l : List Int) : V := if (cpTo l l.length).length = l.length then .bsl s i l.length else .osl s i l.length 0 (cpTo l l.length).length l.length
def cpcL (l : List Int) : List Int := cpTo l l.length ++ List.replicate (l.length - (cpTo l l.length).length) 0
/-- slices.Compact of ints. -/
def cpcS : HSpec where
  go args h := match args with
    | [.nil] => ⟨True, .nil, h⟩
    | [.bsl s i n] => match hget h s i with
      | some B => ⟨(B.fz = false ∧ B.z = 1 ∧ B.ty = 3 ∧ n = B.els.length ∧ n ≤ 1000000 ∧ s ≠ 999999999) ∧ B.els = (B.els.map unri).map ri, cpcV s i (B.els.map unri), hset h s i { B with els := (cpcL (B.els.map unri)).map ri }⟩
      | none => ⟨False, .top, h⟩
    | _ => ⟨False, .top, h⟩
theorem cpc_inv {args : List V} {h : Hp} (hc : (cpcS.go args h).c) : (args = [.nil] ∧ cpcS.go args h = ⟨True, .nil, h⟩) ∨
    ∃ s i cl, ∃ l : List Int, args = [.bsl s i l.length] ∧ hget h s i = some { z := 1, els := l.map ri, ty := 3, cl := cl } ∧ l.length ≤ 1000000 ∧ s ≠ 999999999 ∧ cpcS.go args h = ⟨True, cpcV s i l, hset h s i { z := 1, els := (cpcL l).map ri, ty := 3, cl := cl }⟩ := by
  match args, hc with
  | [.nil], _ => exact .inl ⟨rfl, rfl⟩
  | [.bsl s i n], hc =>
    cases hB : hget h s i with
    | none => simp [cpcS, hB] at hc
    | some B =>
      obtain ⟨z, els, ty, fz, cl⟩ := B
      have hc : (fz = false ∧ z = 1 ∧ ty = 3 ∧ n = els.length ∧ n ≤ 1000000 ∧ s ≠ 999999999) ∧ els = (els.map unri).map ri := by simpa only [cpcS, hB] using hc
      obtain ⟨⟨rfl, rfl, rfl, rfl, h5, h6⟩, h7⟩ := hc
      refine .inr ⟨s, i, cl, els.map unri, by simp, by rw [← h7]; exact hB, by simpa using h5, h6, ?_⟩
      simp only [cpcS, hB]
      simp [h5, h6, ← h7]
noncomputable abbrev E26 : Env := { P := Tryz.prog, fn := tbl [], own := [], key := 2600, nt := 61 }
theorem b26 : HeapBody E26 [] Tryz.f26 cpcS := by
  intro args h hc
  rcases cpc_inv hc with ⟨rfl, hgo⟩ | ⟨s, i, cl, l, rfl, hB, hl, hs, hgo⟩
  · rw [hgo]
    clear hgo hc
    simp -dsimp [Tryz.f26, E26]
    repeat' (first | omega | (simp -dsimp [E26, ri, cellp, ints, *]) | (refine Also.intro ?_ fun _ => ?_) | (refine Hold.intro fun _ => ?_) | (refine And.intro ?_ ?_))
    exact HLe.refl _
  rw [hgo]
  clear hgo hc
  have hs1 : ∀ B', hget (hset h s i B') s i = some B' := fun B' => hget_set_same hB
  by_cases h2 : l.length < 2
  · have h2i : (l.length : Int) < 2 := by omega
    have hall := cpTo_all (l := l) (Nat.le_refl _) fun j h1 h2 => by omega
    rw [List.take_length] at hall
    have e1 : cpcV s i l = .bsl s i l.length := by simp [cpcV, hall]
    have e2 : cpcL l = l := by simp [cpcL, hall]
    rw [e1, e2, hset_get hB]
    simp -dsimp [Tryz.f26, E26]
    repeat' (first | omega | (simp -dsimp [E26, ri, cellp, ints, hB, h2i]) | (refine Also.intro ?_ fun _ => ?_) | (refine Hold.intro fun _ => ?_) | (refine And.intro ?_ ?_))
    exact HLe.refl _
  have h2i : ((l.length : Int) < 2) = False := eq_false (by omega)
  simp -dsimp [Tryz.f26, E26]
  repeat' (first | omega | (simp -dsimp [E26, ri, cellp, ints, hB, h2i]) | (refine Also.intro ?_ fun _ => ?_) | (refine Hold.intro fun _ => ?_) | (refine And.intro ?_ ?_))
  refine awp_loop [10, 11, 12, 13, 16, 17, 18, 19, 20, 21, 22, 23, 24, 25, 26, 27, 28, 4, 5, 29, 30, 31, 32, 35, 36, 37, 38, 39, 40, 41, 42, 43, 44, 45, 46, 47, 48, 49, 50, 51, 52, 53, 3, 33, 34, 54, 55, 56, 57, 58, 59, 2, 14, 15] (fun k : { k : Nat // 1 ≤ k ∧ k ≤ l.length ∧ ∀ j, 1 ≤ j → j < k → l.getD j 0 ≠ l.getD (j - 1) 0 } => [(3, (true, .int .i64 k.1))]) (fun _ => h) (fun k => l.length - k.1) ⟨1, by omega, by omega, fun j _ _ => by omega⟩ ?_ (HLe.refl _) ?_
  · simp [okAll, okv]
  rintro ⟨k, hk0, hk, hall⟩
  simp only
  by_cases hk1 : k < l.length
  · have hki : (k : Int) < l.length := by omega
    have wk : IntKind.wrap .i64 ((k : Int) + 1) = (k + 1 : Nat) := wrap_id (by omega) (by omega)
    have wm : IntKind.wrap .i64 ((k : Int) - 1) = (k - 1 : Nat) := by rw [wrap_id (by omega) (by omega)]; omega
    have hkm : k - 1 < l.length := by omega
    obtain ⟨a, ha, ha'⟩ := get_ex hk1
    obtain ⟨b, hb, hb'⟩ := get_ex hkm
    have ga : l.getD k 0 = a := by simp [List.getD, ha]
    have gb : l.getD (k - 1) 0 = b := by simp [List.getD, hb]
    by_cases hab : a = b
    · subst hab
      have hc0 : cpTo l k = l.take k := cpTo_all hk hall
      have hc1 : cpTo l (k + 1) = l.take k := by
        unfold cpTo; rw [if_neg (by rw [ga, gb]; simp; omega), hc0]
      have hl1 : (cpTo l (k + 1)).length = k := by rw [hc1]; simp; omega
      have hd1 : (cpTo l (k + 1) ++ l.drop k).map ri = l.map ri := by rw [hc1, List.take_append_drop]
      simp -dsimp [hki]
      repeat' (first | omega | (simp -dsimp [E26, ri, cellp, ints, hB, hki, hk1, wk, wm, hkm, ha, hb, ha', hb', ri]) | (refine Also.intro ?_ fun _ => ?_) | (refine Hold.intro fun _ => ?_) | (refine And.intro ?_ ?_))
      refine awp_loop [29, 30, 31, 32, 35, 36, 37, 38, 39, 40, 41, 42, 43, 44, 45, 46, 47, 48, 49, 50, 51, 52, 53, 3, 33, 34, 5] (fun t : { t : Nat // 1 ≤ t ∧ k + t ≤ l.length ∧ (cpTo l (k + t)).length < k + t } => [(5, (true, .int .i64 t.1)), (3, (true, .int .i64 ((cpTo l (k + t.1)).length : Nat)))]) (fun t => hset h s i { z := 1, els := (cpTo l (k + t.1) ++ l.drop (cpTo l (k + t.1)).length).map ri, ty := 3, cl := cl }) (fun t => l.length - k - t.1) ⟨1, by omega, by omega, by omega⟩ ?_ ?_ ?_
      · simp [okAll, okv, hl1]
      · show HLe h (hset h s i { z := 1, els := (cpTo l (k + 1) ++ l.drop (cpTo l (k + 1)).length).map ri, ty := 3, cl := cl })
        simp only [hl1, hd1, hset_get hB]; exact HLe.refl _
      rintro ⟨t, ht1, ht2, ht3⟩
      simp only
      by_cases hkt : k + t < l.length
      · obtain ⟨x, hx, hx'⟩ := get_ex hkt
        obtain ⟨y, hy, hy'⟩ := get_ex (show k + (t - 1) < l.length by omega)
        have gx : l.getD (k + t) 0 = x := by simp [List.getD, hx]
        have gy : l.getD (k + t - 1) 0 = y := by rw [show k + t - 1 = k + (t - 1) by omega]; simp [List.getD, hy]
        have hti : ((t : Int) < (l.length - k : Nat)) = True := eq_true (by omega)
        have htn : (t < l.length - k) = True := eq_true (by omega)
        have htm : (t - 1 < l.length - k) = True := eq_true (by omega)
        have wt : IntKind.wrap .i64 ((t : Int) + 1) = (t + 1 : Nat) := wrap_id (by omega) (by omega)
        have wtm : IntKind.wrap .i64 ((t : Int) - 1) = (t - 1 : Nat) := by rw [wrap_id (by omega) (by omega)]; omega
        have hn : cpTo l (k + (t + 1)) = if x ≠ y then cpTo l (k + t) ++ [x] else cpTo l (k + t) := by
          rw [show k + (t + 1) = (k + t) + 1 by omega]
          simp only [cpTo, gx, gy, show (k + t = 0) = False from eq_false (by omega), false_or]
        obtain ⟨C, hC⟩ : ∃ C, cpTo l (k + t) = C := ⟨_, rfl⟩
        rw [hC] at ht3 hn ⊢
        obtain ⟨m, hm⟩ : ∃ m, C.length = m := ⟨_, rfl⟩
        rw [hm] at ht3 ⊢
        have hmi : m < l.length := by omega
        have hTx : ((C ++ l.drop m).map ri)[k + t]? = some [.int .i64 x] := by
          rw [List.getElem?_map, List.getElem?_append_right (by omega), hm, List.getElem?_drop, show m + (k + t - m) = k + t by omega, hx]; rfl
        have hTy : ((C ++ l.drop m).map ri)[k + (t - 1)]? = some [.int .i64 y] := by
          rw [List.getElem?_map, List.getElem?_append_right (by omega), hm, List.getElem?_drop, show m + (k + (t - 1) - m) = k + (t - 1) by omega, hy]; rfl
        have hTs : ((C ++ l.drop m).map ri).set m [.int .i64 x] = (C ++ [x] ++ l.drop (m + 1)).map ri := by
          rw [show ([.int .i64 x] : List V) = ri x from rfl, ← List.map_set, List.set_append_right _ _ (by omega), hm, Nat.sub_self, List.append_assoc]
          rw [List.drop_eq_getElem_cons (show m < l.length by omega)]; rfl
        have hTl : ((C ++ l.drop m).map ri).length = l.length := by simp [hm]; omega
        have hTne : ((C ++ l.drop m).map ri = []) = False := eq_false (by intro e; rw [e] at hTl; simp at hTl; omega)
        obtain ⟨w, hw, -⟩ := get_ex hmi
        have hTm : ((C ++ l.drop m).map ri)[m]? = some [.int .i64 w] := by
          rw [List.getElem?_map, List.getElem?_append_right (by omega), hm, List.getElem?_drop, show m + (m - m) = m by omega, hw]; rfl
        have wmm : IntKind.wrap .i64 ((m : Int) + 1) = (m : Int) + 1 := wrap_id (by omega) (by omega)
        have hT0 : List.map ri C ++ List.drop m (List.map ri l) = (C ++ l.drop m).map ri := by simp
        generalize hT : (C ++ l.drop m).map ri = T at *
        have hTm' : T[m]'(by omega) = [.int .i64 w] := (List.getElem?_eq_some_iff.1 hTm).2
        have hTx' : T[k + t]'(by omega) = [.int .i64 x] := (List.getElem?_eq_some_iff.1 hTx).2
        have hTy' : T[k + (t - 1)]'(by omega) = [.int .i64 y] := (List.getElem?_eq_some_iff.1 hTy).2
        by_cases hxy : x = y
        · subst hxy
          rw [if_neg (by simp)] at hn
          simp -dsimp [hti]
          repeat' (first | omega | (simp -dsimp [E26, ri, cellp, ints, hs1, hti, htn, htm, wt, wtm, hTx, hTy, hTx', hTy', hTl, hTne, hkt]) | (refine Also.intro ?_ fun _ => ?_) | (refine Hold.intro fun _ => ?_) | (refine And.intro ?_ ?_))
          refine ⟨t + 1, tle_chain rfl ?_, ?_, ⟨by omega, by omega, by rw [hn, hm]; omega⟩, by omega⟩
          · simp [okAll, okv, hn, hm]
          · simp only [hn, hm, hT, hT0]; exact HLe.refl _
        · rw [if_pos hxy] at hn
          have hT1 : List.map ri (C ++ [x]) ++ List.drop (m + 1) (List.map ri l) = (C ++ [x] ++ l.drop (m + 1)).map ri := by simp
          generalize hT' : (C ++ [x] ++ l.drop (m + 1)).map ri = T' at *
          simp -dsimp [hti]
          repeat' (first | omega | (simp -dsimp [E26, ri, cellp, ints, hs1, hti, htn, htm, wt, wtm, hTx, hTy, hTx', hTy', hTl, hTne, hkt, hxy, hmi, hTs, hTm, hTm', wmm, hset_hset]) | (refine Also.intro ?_ fun _ => ?_) | (refine Hold.intro fun _ => ?_) | (refine And.intro ?_ ?_))
          refine ⟨t + 1, tle_chain rfl ?_, ?_, ⟨by omega, by omega, by rw [hn, List.length_append, hm]; simp; omega⟩, by omega⟩
          · simp [okAll, okv, hn, hm]
          · simp only [hn, List.length_append, List.length_singleton, hm, hT', hT1]; exact HLe.refl _
      · have hke : k + t = l.length := by omega
        have hti : ((t : Int) < (l.length - k : Nat)) = False := eq_false (by omega)
        have hn : cpTo l (k + t) = cpTo l l.length := by rw [hke]
        obtain ⟨C, hC⟩ : ∃ C, cpTo l (k + t) = C := ⟨_, rfl⟩
        rw [hC] at ht3 hn ⊢
        obtain ⟨m, hm⟩ : ∃ m, C.length = m := ⟨_, rfl⟩
        rw [hm] at ht3 ⊢
        have e1 : cpcV s i l = .osl s i l.length 0 m l.length := by rw [cpcV, ← hn, hm, if_neg (by omega)]
        have e2 : cpcL l = C ++ List.replicate (l.length - m) 0 := by rw [cpcL, ← hn, hm]
        rw [e1, e2]
        have hTl : ((C ++ l.drop m).map ri).length = l.length := by simp [hm]; omega
        have hTne : ((C ++ l.drop m).map ri = []) = False := eq_false (by intro e; rw [e] at hTl; simp at hTl; omega)
        have hTt : ((C ++ l.drop m).map ri).take m = C.map ri := by rw [← List.map_take, List.take_left' hm]
        have hTd : ∀ n, n = l.length → ((C ++ l.drop m).map ri).drop n = [] := fun n e => by rw [e, ← hTl]; exact List.drop_length
        have hmi : m < l.length := by omega
        have hm0 : m + (l.length - m) = l.length := by omega
        have hsp : (C ++ List.replicate (l.length - m) 0).map ri = C.map ri ++ List.replicate (l.length - m) [.int .i64 0] := by simp [ri]
        rw [hsp]
        generalize (C ++ l.drop m).map ri = T at *
        simp -dsimp [hti]
        repeat' (first | omega | (simp -dsimp [E26, ri, cellp, ints, hs1, hti, hTl, hTne, hTt, hTd, hmi, hm0, hset_hset]) | (refine Also.intro ?_ fun _ => ?_) | (refine Hold.intro fun _ => ?_) | (refine And.intro ?_ ?_))
        exact HLe.refl _
    · simp -dsimp [hki]
      repeat' (first | omega | (simp -dsimp [E26, ri, cellp, ints, hB, hki, hk1, wk, wm, hkm, ha, hb, ha', hb', ri, hab]) | (refine Also.intro ?_ fun _ => ?_) | (refine Hold.intro fun _ => ?_) | (refine And.intro ?_ ?_))
      refine ⟨k + 1, tle_chain rfl ?_, HLe.refl _, ⟨by omega, by omega, fun j h1 h2 => ?_⟩, by omega⟩
      · simp [okAll, okv]
      · by_cases e : j = k
        · subst e; show ¬ l.getD j 0 = l.getD (j - 1) 0; rw [ga, gb]; exact hab
        · exact hall j h1 (by omega)
  · have hkn : ((k : Int) < l.length) = False := eq_false (by omega)
    have hke : k = l.length := by omega
    subst hke
    have hc := cpTo_all (l := l) (Nat.le_refl _) hall
    rw [List.take_length] at hc
    have e1 : cpcV s i l = .bsl s i l.length := by simp [cpcV, hc]
    have e2 : cpcL l = l := by simp [cpcL, hc]
    rw [e1, e2, hset_get hB]
    simp -dsimp [hkn]
    repeat' (first | omega | (simp -dsimp [E26, ri, cellp, ints, hB, hkn]) | (refine Also.intro ?_ fun _ => ?_) | (refine Hold.intro fun _ => ?_) | (refine And.intro ?_ ?_))
    exact HLe.refl _
theorem ok26 : FnOK Tryz.prog 26 (.heap cpcS) := heap_fn (E := E26) rfl LOK.nil (ok := []) (fn := Tryz.f26) (by kernel_rfl) (by kernel_rfl) (by kernel_rfl) (by kernel_rfl) rfl (fun args h hc => by rcases cpc_inv hc with ⟨rfl, _⟩ | ⟨_, _, _, _, rfl, _⟩ <;> simp) b26
theorem cpc_go {h : Hp} {s i : Nat} {l : List Int} {cl : Bool} (hB : hget h s i = some { z := 1, els := l.map ri, ty := 3, cl := cl }) (hl : l.length ≤ 1000000) (hs : s ≠ 999999999) :
    cpcS.go [.bsl s i l.length] h = ⟨True, cpcV s i l, hset h s i { z := 1, els := (cpcL l).map ri, ty := 3, cl := cl }⟩ := by
  simp only [cpcS, hB, unri_map]
  congr 1
  exact eq_true ⟨⟨trivial, trivial, trivial, by simp, hl, hs⟩, trivial⟩
end Go.Sx
end
section
/- A sort of the library, as a contract on the heap. No conditions. -/
set_option linter.unusedSimpArgs false
namespace Go.Sx
open Go.RowKit Go.Proofs Go.Sort
variable [Gls]

section
variable {α : Type} [Inhabited α] (l : α → List Int)

/-- An element's cells: ints. -/
def intR (x : α) : List V := (l x).map (V.int .i64)
def intE (x : α) : List Value := (l x).map (Value.int .i64)

open Classical in
noncomputable def unR (row : List V) : α := if h : ∃ x, intR l x = row then h.choose else default
omit [Gls] in
variable {l} in
theorem unR_R (hinj : ∀ x y, l x = l y → x = y) (x : α) : unR l (intR l x) = x := by
  unfold unR
  have h : ∃ y, intR l y = intR l x := ⟨x, rfl⟩
  rw [dif_pos h]
  have hc := h.choose_spec
  refine hinj _ _ ?_
  unfold intR at hc
  have hm : ∀ a b : List Int, a.map (V.int .i64) = b.map (V.int .i64) → a = b := by
    intro a
    induction a with
    | nil => intro b h; cases b with
      | nil => rfl
      | cons => simp at h
    | cons x a ih => intro b h; cases b with
      | nil => simp at h
      | cons y b => simp only [List.map_cons, List.cons.injEq, V.int.injEq, true_and] at h; rw [h.1, ih b h.2]
  exact hm _ _ hc

/-- The sort's contract: it gets an owned slice, whole; its rows are sorted then by 'srt'. -/
noncomputable def sortS (k : Nat) (ty : TypeId) (srt : Array α → Array α) (ex : List V) : HSpec where
  go args h := match args with
    | .bsl s i n :: r => match hget h s i with
      | some B => ⟨r = ex ∧ B.fz = false ∧ B.z = k ∧ B.ty = ty ∧ n = B.els.length ∧ 1 ≤ n ∧ n < 4611686018427387904 ∧ ∃ d : List α, B.els = d.map (intR l), .tup [], hset h s i { B with els := (srt (B.els.map (unR l)).toArray).toList.map (intR l) }⟩
      | none => ⟨False, .top, h⟩
    | _ => ⟨False, .top, h⟩

omit [Gls] in
theorem intR_get {α : Type} (l : α → List Int) {x : α} {j : Nat} {c : V} (h : (intR l x)[j]? = some c) : ∃ n, c = .int .i64 n ∧ (intE l x)[j]! = .int .i64 n ∧ j < (l x).length := by
  unfold intR at h
  rw [List.getElem?_map] at h
  cases hj : (l x)[j]? with
  | none => simp [hj] at h
  | some n =>
    rw [hj] at h
    simp only [Option.map_some, Option.some.injEq] at h
    refine ⟨n, h.symm, ?_, (List.getElem?_eq_some_iff.1 hj).1⟩
    unfold intE
    rw [List.getElem!_eq_getElem?_getD, List.getElem?_map, hj]; rfl

theorem sort_ok {P : Program} {f : FuncId} {k : Nat} {ty : TypeId} {srt : Array α → Array α} {ex : List V} {exv : List Value}
    (hcall : ∀ (args : Array Value) (w : World), (callFunc f args).run P w = .ok (.enter f args) w) (hk : ∀ x, (l x).length = k) (hk0 : 0 < k) (hinj : ∀ x y, l x = l y → x = y) (hsize : ∀ d, (srt d).size = d.size)
    (hexv : ∀ (w : World) (A : Nat → Prop) (X : Refs) (u : List Value), u.length = ex.length → (∀ i c, ex[i]? = some c → RV w A X c (u.getD i und)) → u = exv)
    (hsort : ∀ (blk off cap : Nat) (d : Array α) (w : World), HoldsK (intE l) k w blk off d → blk < w.heap.size → 1 ≤ d.size → d.size < 4611686018427387904 →
      Calls P f (Value.slice (some ⟨blk, off, none⟩) d.size cap :: exv).toArray w fun e w' => e = .returned (.tuple #[]) ∧ ∃ n os, w' = Go.Sort.grow (putRowK (intE l) k (Sort.ahead w n) blk off (srt d)) os) :
    FnOK P f (.heap (sortS l k ty srt ex)) := by
  refine { call := hcall, iter := fun S' h => (by cases h), pure := fun S' hS => (by cases hS), heap := fun S' hS => ?_ }
  cases hS
  intro args h hc w A X vals hI hsz hargs
  match args, hc with
  | [], hc => exact hc.elim
  | x :: r, hc =>
  cases x with
  | bsl s i n =>
    cases hB : hget h s i with
    | none => simp [sortS, hB] at hc
    | some B =>
      have hgo : (sortS l k ty srt ex).go (.bsl s i n :: r) h = ⟨r = ex ∧ B.fz = false ∧ B.z = k ∧ B.ty = ty ∧ n = B.els.length ∧ 1 ≤ n ∧ n < 4611686018427387904 ∧ ∃ d : List α, B.els = d.map (intR l), .tup [], hset h s i { B with els := (srt (B.els.map (unR l)).toArray).toList.map (intR l) }⟩ := by simp only [sortS, hB]
      rw [hgo] at hc ⊢
      obtain ⟨hr, hfz, hz, hty, hn, h1, h62, d, hd⟩ := hc
      subst hr
      have hun : B.els.map (unR l) = d := by
        rw [hd, List.map_map]
        have : (unR l ∘ intR l) = id := funext fun x => unR_R hinj x
        rw [this, List.map_id]
      simp only [hun]
      have hdl : d.length = n := by rw [hn, hd, List.length_map]
      obtain ⟨a, c, e0, hN, hnl, hv⟩ := (hargs 0 (.bsl s i n) rfl).bsl_inv
      have hb := hI.blk s i B hB
      have hv' := hv (by rw [hb.hlen, hn])
      rcases hb.mem with ⟨_, hnil⟩ | ⟨arr, cap, g1, g2, g3, g4, g5, g6, g7, g8⟩
      · rw [hnil] at hn; simp at hn; omega
      have hvals : vals = (Value.slice (some ⟨(X.D s i).b, (X.D s i).o, none⟩) d.toArray.size cap :: exv).toArray := by
        have hx := hexv w A X (vals.toList.drop 1) (by simp at hsz ⊢; omega) (fun j c hj => by
          have := hargs (j + 1) c (by simpa using hj)
          rw [List.getD_eq_getElem?_getD, List.getElem?_drop, Array.getElem?_toList, Nat.add_comm 1 j]
          rwa [Array.getD_eq_getD_getElem?] at this)
        have h0 : vals.getD 0 und = Value.slice (some ⟨(X.D s i).b, (X.D s i).o, none⟩) d.toArray.size cap := by
          rw [e0, hv', g2]; simp only [List.size_toArray, hdl, hn]
        apply Array.toList_inj.1
        rw [← hx]
        cases hvl : vals.toList with
        | nil => have := congrArg List.length hvl; simp at this hsz; simp [this] at hsz
        | cons y ys =>
          have : vals.getD 0 und = y := by rw [Array.getD_eq_getD_getElem?, ← Array.getElem?_toList, hvl]; rfl
          rw [← h0, this]; simp
      have hdsz : d.toArray.size = n := by simpa using hdl
      have hlt : (X.D s i).b < w.heap.size := (Array.getElem?_eq_some_iff.1 g1).1
      have hH : HoldsK (intE l) k w (X.D s i).b (X.D s i).o d.toArray := by
        intro j hj
        rw [size_flatK] at hj
        have hj' := hj
        rw [get_flatK _ _ _ _ hj']
        have he : j / k < d.length := by rw [hdl, ← hdsz]; exact Nat.div_lt_of_lt_mul (by rw [Nat.mul_comm]; exact hj)
        have hm : j % k < k := Nat.mod_lt _ hk0
        have e1 : B.els[j / k]? = some (intR l d[j / k]) := by rw [hd, List.getElem?_map, List.getElem?_eq_getElem he]; rfl
        have e2 : (intR l d[j / k])[j % k]? = some (.int .i64 ((l d[j / k])[j % k]'(by rw [hk]; exact hm))) := by
          unfold intR; rw [List.getElem?_map, List.getElem?_eq_getElem (by rw [hk]; exact hm)]; rfl
        obtain ⟨u, u1, u2, u3, u4⟩ := g6 _ _ _ _ e1 e2
        have u5 := u3.int_inv
        have hjk : (X.D s i).o + j / k * k + j % k = (X.D s i).o + j := by have := Nat.div_add_mod j k; rw [Nat.mul_comm] at this; omega
        rw [hz, hjk] at u1
        obtain ⟨m, m1, m2, _⟩ := intR_get l e2
        have e3 : d.toArray[j / k]! = d[j / k] := by simp [he]
        refine ⟨?_, ?_⟩
        · unfold World.cell?
          simp only [g1, Option.isSome_none, Bool.false_eq_true, if_false]
          injection m1 with _ m3
          rw [u1, u5, e3, m2, m3]; rfl
        · unfold World.frozen?
          simp [g1]
      rw [hvals]
      refine (hsort _ _ _ d.toArray w hH hlt (by omega) (by omega)).mono ?_
      rintro e w' ⟨rfl, q, os, rfl⟩
      have hs' := hsize d.toArray
      generalize hdd : srt d.toArray = d' at *
      have hd'n : d'.size = n := by omega
      have hB' : ({ B with els := d'.toList.map (intR l) } : Blk) = { B with els := d'.toList.map (intR l) } := rfl
      have hw1 : (putRowK (intE l) k w (X.D s i).b (X.D s i).o d').heap[(X.D s i).b]? = some (.cells (putCells id (X.D s i).o (flatK (intE l) k d') arr) B.ty (0, 0)) := by
        simp only [putRowK, putRow, mapBlock, Array.getElem?_modify, if_true, g1, Option.map_some, onCells]
      obtain ⟨hL, hI1⟩ := hI.turn (B' := { B with els := d'.toList.map (intR l) }) hB (w' := putRowK (intE l) k w (X.D s i).b (X.D s i).o d') (by simp [putRowK, putRow, mapBlock]) rfl rfl rfl hfz (by rw [Hd.real, g2]; simp)
        (fun b hne => by simp only [putRowK, putRow, mapBlock, Array.getElem?_modify]; rw [if_neg (fun e => hne e.symm)])
        (fun hL => { hN := hN, hz := hb.hz, hlen := by rw [hb.hlen]; simp; omega, rows := fun row hrow => by
                       obtain ⟨x, _, rfl⟩ := List.mem_map.1 hrow
                       simp [intR, hk, hz]
                     mem := .inr ⟨_, cap, hw1, by rw [g2]; simp; omega, by simp; omega, g4, by
                       have : (putCells id (X.D s i).o (flatK (intE l) k d') arr).size = arr.size := by simp [putCells]
                       rw [this]; exact g5, fun e j row c he hj => by
                         simp only at he
                         rw [List.getElem?_map] at he
                         cases hx : d'.toList[e]? with
                         | none => simp [hx] at he
                         | some x =>
                         rw [hx] at he
                         simp only [Option.map_some, Option.some.injEq] at he
                         subst he
                         obtain ⟨m, m1, m2, m3⟩ := intR_get l hj
                         rw [hk] at m3
                         have hel : e < d'.size := by have := (List.getElem?_eq_some_iff.1 hx).1; simpa using this
                         have hbnd : e * k + j < d'.size * k := by
                           have := Nat.mul_le_mul_right k (show e + 1 ≤ d'.size from hel); rw [Nat.add_mul, Nat.one_mul] at this; omega
                         have hin : (X.D s i).o + e * k + j < arr.size := by
                           have hcz := g5
                           rw [hz] at hcz
                           have : d'.size * k ≤ cap * k := Nat.mul_le_mul_right k (by omega)
                           omega
                         refine ⟨.int .i64 m, ?_, rfl, ?_, fun _ => ?_⟩
                         · rw [hz]
                           simp only [putCells, Array.getElem?_mapIdx, Array.getElem?_eq_getElem hin, Option.map_some, size_flatK]
                           rw [if_pos ⟨by omega, by omega⟩, show (X.D s i).o + e * k + j - (X.D s i).o = e * k + j by omega, get_flatK _ _ _ _ hbnd]
                           have e1 : (e * k + j) / k = e := (blk_iff k e _ hk0).1 ⟨by omega, by omega⟩
                           have e2 : (e * k + j) % k = j := by rw [Nat.mod_eq_sub_div_mul, e1]; omega
                           rw [e1, e2]
                           have e3 : d'[e]! = x := by
                             rw [Array.getElem?_toList] at hx
                             rw [getElem!_def, hx]
                           rw [e3, m2]; rfl
                         · rw [m1]; exact .pure (.int _ _)
                         · rw [m1]; exact .int _ _, g7, g8⟩ })
      obtain ⟨_, hI2⟩ := hI1.below (w' := Go.Sort.grow (putRowK (intE l) k (Sort.ahead w q) (X.D s i).b (X.D s i).o d') os) { os := rfl, tape := rfl, output := rfl, size := by simp [Go.Sort.grow, putRowK, putRow, mapBlock, Sort.ahead], block := (fun b hlt => by
        simp only [Go.Sort.grow, putRowK, putRow, mapBlock, Sort.ahead] at hlt ⊢
        rw [Array.getElem?_append_left hlt]) }
      exact ⟨_, A, X, rfl, hI2, .pure (.tup [] #[] rfl (fun i c h => by simp at h))⟩
  | _ => exact hc.elim
end
end Go.Sx
end
section
/- The library's sort of ints, of no element too, as a contract on the heap. No conditions. -/
set_option linter.unusedSimpArgs false
set_option linter.unusedSectionVars false
namespace Go.Sx
open Go.RowKit Go.Proofs Go.Sort
variable [Gls]

def inL (n : Int) : List Int := [n]
noncomputable def inSrt (d : Array Int) : Array Int := (d.toList.mergeSort fun x y => decide (x ≤ y)).toArray
def srtZ (l : List Int) : List Int := l.mergeSort fun x y => decide (x ≤ y)
omit [Gls] in
theorem srtZ_len (l : List Int) : (srtZ l).length = l.length := by simp [srtZ]
omit [Gls] in
theorem srtZ_mem (l : List Int) (x : Int) : x ∈ srtZ l ↔ x ∈ l := by simp [srtZ]
omit [Gls] in
theorem srtZ_asc (l : List Int) : (srtZ l).Pairwise (· ≤ ·) := by
  have := List.pairwise_mergeSort (le := fun x y : Int => decide (x ≤ y)) (fun a b c h1 h2 => by simp at *; omega) (fun a b => by simp; omega) l
  exact this.imp fun h => by simpa using h
noncomputable def srt0S : HSpec where
  go args h := match args with
    | [.nil] => ⟨True, .tup [], h⟩
    | [.bsl s i n] => if n = 0 then ⟨True, .tup [], h⟩ else (sortS inL 1 3 inSrt []).go [.bsl s i n] h
    | _ => ⟨False, .top, h⟩
theorem putRow_map (w : World) (blk off : Nat) (S : Array Int) : putRow (Value.int .i64) w blk off S = putRow id w blk off (S.map (Value.int .i64)) := by
  unfold putRow
  refine mapBlock_congr _ _ _ _ fun c e fr hc => ?_
  unfold putCells
  apply Array.ext (by simp)
  intro i h1 h2
  simp only [Array.getElem_mapIdx, Array.size_map, id]
  split
  · rename_i hin
    rw [getElem!_pos S (i - off) (by omega), getElem!_pos (S.map (Value.int .i64)) (i - off) (by simp; omega)]
    simp
  · rfl
theorem srtI_ok {P : Program} {f : FuncId} (hcall : ∀ (args : Array Value) (w : World), (callFunc f args).run P w = .ok (.enter f args) w)
    (h : ∀ (blk off cap : Nat) (zs : List Int) (w : World), Holds (Value.int .i64) w blk off zs.toArray → blk < w.heap.size → zs.length < 4611686018427387904 →
      Calls P f #[.slice (some ⟨blk, off, none⟩) zs.length cap] w fun e w' => e = .returned (.tuple #[]) ∧ ∃ n os, w' = grow (putRow (Value.int .i64) (Sort.ahead w n) blk off (zs.mergeSort fun x y => decide (x ≤ y)).toArray) os) :
    FnOK P f (.heap (sortS inL 1 3 inSrt [])) := sort_ok inL (exv := []) hcall (fun _ => rfl) (by decide) (fun x y h => by simpa [inL] using h) (fun d => by simp [inSrt])
  (fun w A X u hl hu => by
    match u, hl with
    | [], _ => rfl)
  (fun blk off cap d w hH hblk h1 h62 => by
    have hf : ∀ d : Array Int, flatK (intE inL) 1 d = d.map (Value.int .i64) := fun d => by
      apply Array.ext (by simp)
      intro i h1 h2
      simp [flatK, intE, inL, Nat.mod_one]
      rw [getElem!_pos d i (by simpa using h2)]
    have hH' : Holds (Value.int .i64) w blk off d.toList.toArray := fun j hj => by
      have := hH j (by rw [size_flatK]; simpa using hj)
      rw [hf] at this
      simpa [getElem!_pos d j (by simpa using hj), getElem!_pos (d.map (Value.int .i64)) j (by simpa using hj)] using this
    have := h blk off cap d.toList w hH' hblk (by simpa using h62)
    rw [Array.length_toList] at this
    refine this.mono ?_
    rintro e w' ⟨rfl, n, os, rfl⟩
    refine ⟨rfl, n, os, ?_⟩
    congr 1
    show putRow (Value.int .i64) _ blk off (inSrt d) = putRow id _ blk off (flatK (intE inL) 1 (inSrt d))
    rw [hf]
    exact putRow_map _ _ _ _)
theorem srt0_ok {P : Program} {f : FuncId} (h1 : FnOK P f (.heap (sortS inL 1 3 inSrt []))) (h0 : ∀ (p : Option Addr) (cap : Nat) (w : World), Calls P f #[.slice p 0 cap] w fun e w' => e = .returned (.tuple #[]) ∧ w' = w) : FnOK P f (.heap srt0S) := by
  refine { call := h1.call, iter := fun S' h => (by cases h), pure := fun S' hS => (by cases hS), heap := fun S' hS => ?_ }
  cases hS
  intro args h hc w A X vals hI hsz hargs
  have one : ∀ {x : Value}, vals.getD 0 und = x → vals.size = 1 → vals = #[x] := by
    intro x hx hs
    apply Array.ext (by simpa using hs)
    intro i h1 h2
    have : i = 0 := by omega
    subst this
    rw [Array.getD_eq_getD_getElem?, Array.getElem?_eq_getElem (by omega)] at hx
    simpa using hx
  match args, hc with
  | [], hc => exact hc.elim
  | _ :: _ :: _, hc => exact absurd hc (by simp [srt0S])
  | [x], hc =>
  cases x with
  | nil =>
    have e := one (hargs 0 .nil rfl).nil_inv (by simpa using hsz)
    rw [e]
    refine (h0 _ _ _).mono ?_
    rintro e w' ⟨rfl, rfl⟩
    exact ⟨_, A, X, rfl, hI, .pure (.tup [] #[] rfl (fun i c h => by simp at h))⟩
  | bsl s i n =>
    by_cases hn : n = 0
    · subst hn
      obtain ⟨a, c, e0, _⟩ := (hargs 0 (.bsl s i 0) rfl).bsl_inv
      have e := one e0 (by simpa using hsz)
      rw [e]
      refine (h0 _ _ _).mono ?_
      rintro e w' ⟨rfl, rfl⟩
      exact ⟨_, A, X, rfl, hI, .pure (.tup [] #[] rfl (fun i c h => by simp at h))⟩
    · have e : srt0S.go [.bsl s i n] h = (sortS inL 1 3 inSrt []).go [.bsl s i n] h := by simp only [srt0S, if_neg hn]
      rw [e] at hc ⊢
      exact h1.heap _ rfl _ h hc w A X vals hI hsz hargs
  | _ => exact hc.elim
omit [Gls] in
theorem srt0_go {h : Hp} {s i : Nat} {l : List Int} {cl : Bool} (hB : hget h s i = some { z := 1, els := l.map ri, ty := 3, cl := cl }) (h2 : l.length < 4611686018427387904) :
    srt0S.go [.bsl s i l.length] h = ⟨True, .tup [], hset h s i { z := 1, els := (srtZ l).map ri, ty := 3, cl := cl }⟩ := by
  by_cases h0 : l.length = 0
  · have : l = [] := List.eq_nil_of_length_eq_zero h0
    subst this
    have e : srtZ [] = [] := by simp [srtZ]
    simp only [srt0S, List.length_nil, if_true, e, hset_get hB]
  · have hR : ∀ x : Int, intR inL x = ri x := fun x => rfl
    have hd : l.map ri = l.map (intR inL) := rfl
    have hun : (l.map ri).map (unR inL) = l := by
      rw [hd, List.map_map]
      have : (unR inL ∘ intR inL) = id := funext fun x => unR_R (fun x y h => by simpa [inL] using h) x
      rw [this, List.map_id]
    have he : (inSrt l.toArray).toList.map (intR inL) = (srtZ l).map ri := by simp only [inSrt, srtZ]; rfl
    simp only [srt0S, if_neg h0, sortS, hB, hun, he]
    congr 1
    exact eq_true ⟨trivial, trivial, trivial, trivial, by rw [List.length_map], by omega, h2, l, hd⟩
end Go.Sx
end
section
/- The library's sort of ints at this program, by the kit's contracts. No conditions. -/
set_option linter.unusedSimpArgs false
set_option linter.unusedSectionVars false
set_option maxRecDepth 100000
namespace Go.Proofs
open Go.Shelf
def Tryz.lays189_ren : Go.Shelf.Ren := ⟨fun | 189 => 25 | 125 => 61 | 257 => 60 | 128 => 104 | 129 => 105 | 294 => 95 | 295 => 96 | 296 => 97 | 297 => 98 | 298 => 99 | 299 => 100 | 216 => 101 | 300 => 102 | 301 => 103 | 328 => 133 | 329 => 134 | 330 => 135 | 331 => 136 | 332 => 137 | 215 => 132 | 343 => 142 | n => n, fun | 28 => 37 | 3 => 3 | 46 => 137 | 0 => 0 | 51 => 178 | 53 => 180 | 4 => 4 | 183 => 172 | 182 => 171 | 131 => 175 | 5 => 5 | 9 => 9 | 218 => 199 | 222 => 203 | 228 => 209 | 229 => 182 | n => n, fun | n => n⟩
theorem Tryz.lays189 : Go.Proofs.Lays.n189 Tryz.prog Tryz.lays189_ren := {
  mixed := by kernel_rfl
  f125 := Tryz.func61.trans (congrArg some (by kernel_rfl))
  f128 := Tryz.func104.trans (congrArg some (by kernel_rfl))
  f129 := Tryz.func105.trans (congrArg some (by kernel_rfl))
  f189 := Tryz.func25.trans (congrArg some (by kernel_rfl))
  f215 := Tryz.func132.trans (congrArg some (by kernel_rfl))
  f216 := Tryz.func101.trans (congrArg some (by kernel_rfl))
  f257 := Tryz.func60.trans (congrArg some (by kernel_rfl))
  f294 := Tryz.func95.trans (congrArg some (by kernel_rfl))
  f295 := Tryz.func96.trans (congrArg some (by kernel_rfl))
  f296 := Tryz.func97.trans (congrArg some (by kernel_rfl))
  f297 := Tryz.func98.trans (congrArg some (by kernel_rfl))
  f298 := Tryz.func99.trans (congrArg some (by kernel_rfl))
  f299 := Tryz.func100.trans (congrArg some (by kernel_rfl))
  f300 := Tryz.func102.trans (congrArg some (by kernel_rfl))
  f301 := Tryz.func103.trans (congrArg some (by kernel_rfl))
  f328 := Tryz.func133.trans (congrArg some (by kernel_rfl))
  f329 := Tryz.func134.trans (congrArg some (by kernel_rfl))
  f330 := Tryz.func135.trans (congrArg some (by kernel_rfl))
  f331 := Tryz.func136.trans (congrArg some (by kernel_rfl))
  f332 := Tryz.func137.trans (congrArg some (by kernel_rfl))
  f343 := Tryz.func142.trans (congrArg some (by kernel_rfl))
  t0 := Tryz.underlying0
  a0 := Tryz.isAgg0
  z0 := Tryz.sizeOf0
  v0 := Tryz.zeroValue0
  t3 := Tryz.underlying3
  a3 := Tryz.isAgg3
  z3 := Tryz.sizeOf3
  v3 := Tryz.zeroValue3
  t4 := Tryz.underlying4
  a4 := Tryz.isAgg4
  z4 := Tryz.sizeOf4
  v4 := Tryz.zeroValue4
  t5 := Tryz.underlying5
  a5 := Tryz.isAgg5
  z5 := Tryz.sizeOf5
  v5 := Tryz.zeroValue5
  t9 := Tryz.underlying9
  a9 := Tryz.isAgg9
  z9 := Tryz.sizeOf9
  v9 := Tryz.zeroValue9
  t28 := Tryz.underlying37
  a28 := Tryz.isAgg37
  z28 := Tryz.sizeOf37
  v28 := Tryz.zeroValue37
  t46 := Tryz.underlying137
  a46 := Tryz.isAgg137
  z46 := Tryz.sizeOf137
  v46 := Tryz.zeroValue137
  t51 := Tryz.underlying178
  a51 := Tryz.isAgg178
  z51 := Tryz.sizeOf178
  v51 := Tryz.zeroValue178
  t53 := Tryz.underlying180
  a53 := Tryz.isAgg180
  z53 := Tryz.sizeOf180
  v53 := Tryz.zeroValue180
  t131 := Tryz.underlying175
  a131 := Tryz.isAgg175
  z131 := Tryz.sizeOf175
  v131 := Tryz.zeroValue175
  t182 := Tryz.underlying171
  a182 := Tryz.isAgg171
  z182 := Tryz.sizeOf171
  v182 := Tryz.zeroValue171
  t183 := Tryz.underlying172
  a183 := Tryz.isAgg172
  z183 := Tryz.sizeOf172
  v183 := Tryz.zeroValue172
  t218 := Tryz.underlying199
  a218 := Tryz.isAgg199
  z218 := Tryz.sizeOf199
  v218 := Tryz.zeroValue199
  t222 := Tryz.underlying203
  a222 := Tryz.isAgg203
  z222 := Tryz.sizeOf203
  v222 := Tryz.zeroValue203
  t228 := Tryz.underlying209
  a228 := Tryz.isAgg209
  z228 := Tryz.sizeOf209
  v228 := Tryz.zeroValue209
  t229 := Tryz.underlying182
  a229 := Tryz.isAgg182
  z229 := Tryz.sizeOf182
  v229 := Tryz.zeroValue182 }
open Go.Sort Go.RowKit in
theorem Tryz.slices_Sort_int (blk off cap : Nat) (zs : List Int) (w : World) (hH : Holds (Value.int .i64) w blk off zs.toArray) (hblk : blk < w.heap.size) (hsz : zs.length < 4611686018427387904) :
    Calls Tryz.prog 25 #[.slice (some ⟨blk, off, none⟩) zs.length cap] w fun e w' =>
      e = .returned (.tuple #[]) ∧ ∃ n os, w' = grow (putRow (Value.int .i64) (Sort.ahead w n) blk off (zs.mergeSort fun x y => decide (x ≤ y)).toArray) os := Any.slices_Sort_int Tryz.lays189 blk off cap zs w hH hblk hsz
open Go.RowKit Go.Sort in
theorem Tryz.slices_Sort_int_none (p : Option Addr) (cap : Nat) (w : World) :
    Calls Tryz.prog 25 #[.slice p 0 cap] w fun e w' => e = .returned (.tuple #[]) ∧ w' = w := Any.slices_Sort_int_none Tryz.lays189 p cap w
end Go.Proofs
namespace Go.Sx
open Go.Proofs
theorem ok25 : FnOK Tryz.prog 25 (.heap srt0S) := srt0_ok (srtI_ok (fun args w => run_call (fn := Tryz.f25) (by kernel_rfl) (by kernel_rfl) rfl args w) Tryz.slices_Sort_int) Tryz.slices_Sort_int_none
end Go.Sx
end
