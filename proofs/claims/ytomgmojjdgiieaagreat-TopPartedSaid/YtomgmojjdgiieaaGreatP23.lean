/- A part of a proof; no conditions. -/
import Derived.Test.YtomgmojjdgiieaaGreatP22
set_option linter.unusedSimpArgs false
set_option linter.unusedVariables false
set_option linter.unusedSectionVars false
section
/- Tables: axes, valid tables, spans on them. No conditions. -/
set_option linter.unusedSimpArgs false
set_option linter.unusedSectionVars false
set_option maxRecDepth 100000
set_option maxHeartbeats 4000000
namespace Go.Sx.Tab
open Go.Proofs Go.Sx
attribute [local irreducible] HLe
attribute [local simp] hps_app
theorem get_ex {α : Type} {l : List α} {k : Nat} (h : k < l.length) : ∃ a, l[k]? = some a ∧ l[k] = a := ⟨_, List.getElem?_eq_getElem h, rfl⟩
theorem ri_inj (a b : Int) (h : ri a = ri b) : a = b := by simpa [ri] using h
theorem ints_inj (a b : List Int) (h : ints a = ints b) : a = b := by
  simp only [ints, V.sl.injEq, true_and] at h
  exact mapRow_inj ri_inj h
def rwI (l : List Int) : List V := [ints l]
theorem rwI_inj (a b : List Int) (h : rwI a = rwI b) : a = b := ints_inj _ _ (by simpa [rwI] using h)
def tabR (t : Tb) : List V := [ints t.xs, ints t.ys, .sl 1 (t.vs.map rwI)]
theorem tabR_inj (a b : Tb) (h : tabR a = tabR b) : a = b := by
  obtain ⟨a1, a2, a3⟩ := a; obtain ⟨b1, b2, b3⟩ := b
  simp only [tabR, List.cons.injEq, V.sl.injEq, true_and, and_true] at h
  rw [ints_inj _ _ h.1, ints_inj _ _ h.2.1, mapRow_inj rwI_inj h.2.2]
@[simp] def i1E (d : Int) : List V := [.int .i64 d]
theorem i1E_inj (a b : Int) (h : i1E a = i1E b) : a = b := by simpa using h
theorem i1E_dec (n : Int) : decC i1E [.int .i64 n] = n := decC_eq i1E_inj n
def far6 (n : Int) : Bool := !withinB n (-1000000) 1000000
noncomputable abbrev outS : PSpec := mkP i1E (fun _ => True) fun n => .bool (far6 n)
noncomputable abbrev E99 : Env := { P := Tryz.prog, fn := tbl [(71, .pure withinS)], own := [], key := 9900, nt := 6 }
theorem b99 : PureBody E99 [] Tryz.f99 outS := by
  refine pb ?_
  rintro n _
  simp -dsimp [Tryz.f99, E99]
  repeat' (first | omega | (simp -dsimp [E99, ri, cellp, ints, far6]) | (refine Also.intro ?_ fun _ => ?_) | (refine Hold.intro fun _ => ?_) | (refine And.intro ?_ ?_))
theorem ok99 : FnOK Tryz.prog 99 (.pure outS) := pure_fn (E := E99) rfl (.cons ok71 .nil) (ok := []) (fn := Tryz.f99) (by kernel_rfl) (by kernel_rfl) (by kernel_rfl) (by kernel_rfl) rfl (fun _ _ => by simp) b99
@[simp] def farsE (d : List Int) : List V := [.sl 1 (d.map ri), .fn 99 []]
theorem farsE_inj (a b : List Int) (h : farsE a = farsE b) : a = b := by
  simp only [farsE, List.cons.injEq, V.sl.injEq, true_and, and_true] at h
  exact mapRow_inj ri_inj h
theorem farsE_dec (l : List Int) : decC farsE [.sl 1 (l.map ri), .fn 99 []] = l := decC_eq farsE_inj l
noncomputable abbrev farixS : PSpec := mkP farsE (fun d => d.length ≤ 1000000) fun d => .int .i64 (idxZ d far6)
noncomputable abbrev faranS : PSpec := mkP farsE (fun d => d.length ≤ 1000000) fun d => .bool (d.any far6)
noncomputable abbrev E119 : Env := { P := Tryz.prog, fn := tbl [(99, .pure outS)], own := [], key := 11900, nt := 19 }
theorem b119 : PureBody E119 [] Tryz.f119 farixS := by
  refine pb ?_
  rintro l hl
  have hl : l.length ≤ 1000000 := hl
  simp -dsimp [Tryz.f119, E119]
  refine awp_loop [9, 10, 5, 11, 12, 13, 14, 15, 16, 17, 4, 18, 8] (fun k : { k : Nat // k ≤ l.length ∧ ∀ j (h : j < l.length), j < k → far6 l[j] = false } => [(8, (true, .int .i64 k.1))]) (fun _ => noH) (fun k => l.length - k.1) ⟨0, by omega, fun _ _ h => by omega⟩ ?_ (HLe.refl _) ?_
  · simp [okAll, okv]
  rintro ⟨k, hk, hall⟩
  by_cases hk1 : k < l.length
  · have hki : (k : Int) < l.length := by omega
    have wk : IntKind.wrap .i64 ((k : Int) + 1) = (k + 1 : Nat) := wrap_id (by omega) (by omega)
    cases hw : far6 l[k]
    · simp -dsimp [hki]
      repeat' (first | omega | (simp -dsimp [E119, ri, cellp, ints, hki, hk1, hl, hw, wk, i1E_dec]) | (refine Also.intro ?_ fun _ => ?_) | (refine Hold.intro fun _ => ?_) | (refine And.intro ?_ ?_))
      refine ⟨k + 1, tle_chain rfl ?_, HLe.refl _, ⟨by omega, fun j h hj => ?_⟩, by omega⟩
      · simp [okAll, okv]
      · by_cases hjk : j = k
        · subst hjk; exact hw
        · exact hall j h (by omega)
    · have hz := idxZ_at l far6 hk1 hw hall
      simp -dsimp [hki]
      repeat' (first | omega | (simp -dsimp [E119, ri, cellp, ints, hki, hk1, hl, hw, wk, hz, i1E_dec]) | (refine Also.intro ?_ fun _ => ?_) | (refine Hold.intro fun _ => ?_) | (refine And.intro ?_ ?_))
  · have hkn : ¬ (k : Int) < l.length := by omega
    have hz := idxZ_none l far6 (fun j h => hall j h (by omega))
    simp -dsimp [hkn]
    repeat' (first | omega | (simp -dsimp [E119, ri, cellp, ints, hkn, hz]) | (refine Also.intro ?_ fun _ => ?_) | (refine Hold.intro fun _ => ?_) | (refine And.intro ?_ ?_))
theorem ok119 : FnOK Tryz.prog 119 (.pure farixS) := pure_fn (E := E119) rfl (.cons ok99 .nil) (ok := []) (fn := Tryz.f119) (by kernel_rfl) (by kernel_rfl) (by kernel_rfl) (by kernel_rfl) rfl (fun _ _ => by simp) b119
noncomputable abbrev E101 : Env := { P := Tryz.prog, fn := tbl [(119, .pure farixS)], own := [], key := 10100, nt := 9 }
theorem b101 : PureBody E101 [] Tryz.f101 faranS := by
  refine pb ?_
  rintro l hl
  have hl : l.length ≤ 1000000 := hl
  have hz := idxZ_any l far6
  simp -dsimp [Tryz.f101, E101]
  repeat' (first | omega | (simp -dsimp [E101, ri, cellp, ints, hl, farsE_dec, hz]) | (refine Also.intro ?_ fun _ => ?_) | (refine Hold.intro fun _ => ?_) | (refine And.intro ?_ ?_))
theorem ok101 : FnOK Tryz.prog 101 (.pure faranS) := pure_fn (E := E101) rfl (.cons ok119 .nil) (ok := []) (fn := Tryz.f101) (by kernel_rfl) (by kernel_rfl) (by kernel_rfl) (by kernel_rfl) rfl (fun _ _ => by simp) b101
@[simp] def inE (d : List Int) : List V := [ints d]
theorem inE_inj (a b : List Int) (h : inE a = inE b) : a = b := ints_inj _ _ (by simpa using h)
theorem inE_dec (l : List Int) : decC inE [.sl 1 (l.map ri)] = l := decC_eq inE_inj l
def axAt (l : List Int) (i : Nat) : Bool := !far6 (l.getD i 0) && (decide (i = 0) || withinB (l.getD i 0 - l.getD (i - 1) 0) 1 10000)
def axB (l : List Int) : Bool := withinB l.length 2 12 && (List.range l.length).all (axAt l)
theorem axAt_of {l : List Int} {k : Nat} {x y : Int} (gx : l.getD k 0 = x) (gy : l.getD (k - 1) 0 = y) : axAt l k = (!far6 x && (decide (k = 0) || withinB (x - y) 1 10000)) := by subst gx gy; rfl
theorem axB_no {l : List Int} {k : Nat} (hk : k < l.length) (h : axAt l k = false) : axB l = false := by
  rw [axB, Bool.and_eq_false_iff]
  right
  rw [List.all_eq_false]
  exact ⟨k, by simpa using hk, by simp [h]⟩
theorem axB_ok {l : List Int} (h1 : withinB l.length 2 12 = true) (h : ∀ j, j < l.length → axAt l j = true) : axB l = true := by
  rw [axB, h1, Bool.true_and, List.all_eq_true]
  intro j hj
  exact h j (by simpa using hj)
noncomputable abbrev axS : PSpec := mkP inE (fun l => l.length ≤ 9223372036854775807) fun l => .bool (axB l)
noncomputable abbrev E102 : Env := { P := Tryz.prog, fn := tbl [(71, .pure withinS)], own := [], key := 10200, nt := 35 }
theorem b102 : PureBody E102 [] Tryz.f102 axS := by
  refine pb ?_
  rintro l hl
  have hl : l.length ≤ 9223372036854775807 := hl
  cases h1 : withinB l.length 2 12
  · have hz : axB l = false := by simp [axB, h1]
    simp -dsimp [Tryz.f102, E102]
    repeat' (first | omega | (simp -dsimp [E102, ri, cellp, ints, hl, h1, hz]) | (refine Also.intro ?_ fun _ => ?_) | (refine Hold.intro fun _ => ?_) | (refine And.intro ?_ ?_))
  have h12 : 2 ≤ (l.length : Int) ∧ (l.length : Int) ≤ 12 := by simpa [withinB] using h1
  simp -dsimp [Tryz.f102, E102]
  repeat' (first | omega | (simp -dsimp [E102, ri, cellp, ints, hl, h1]) | (refine Also.intro ?_ fun _ => ?_) | (refine Hold.intro fun _ => ?_) | (refine And.intro ?_ ?_))
  refine awp_loop [12, 13, 14, 15, 3, 4, 16, 17, 18, 19, 20, 21, 22, 23, 24, 25, 26, 27, 28, 29, 30, 31, 32, 33, 2, 34, 11] (fun k : { k : Nat // k ≤ l.length ∧ ∀ j, j < k → axAt l j = true } => [(11, (true, .int .i64 k.1))]) (fun _ => noH) (fun k => l.length - k.1) ⟨0, by omega, fun _ h => by omega⟩ ?_ (HLe.refl _) ?_
  · simp [okAll, okv]
  rintro ⟨k, hk, hall⟩
  dsimp only
  by_cases hk1 : k < l.length
  · have hki : ((k : Int) < l.length) = True := eq_true (by omega)
    have wk : IntKind.wrap .i64 ((k : Int) + 1) = (k + 1 : Nat) := wrap_id (by omega) (by omega)
    obtain ⟨x, hx, hx'⟩ := get_ex hk1
    have gx : l.getD k 0 = x := by simp [List.getD, hx]
    cases hf : withinB x (-1000000) 1000000
    · have hz := axB_no hk1 (by rw [axAt_of gx rfl]; simp [far6, hf])
      simp -dsimp [hki]
      repeat' (first | omega | (simp -dsimp [E102, ri, cellp, ints, hki, hk1, hx, hx', hf, hz]) | (refine Also.intro ?_ fun _ => ?_) | (refine Hold.intro fun _ => ?_) | (refine And.intro ?_ ?_))
    · have hfx : -1000000 ≤ x ∧ x ≤ 1000000 := by simpa [withinB] using hf
      by_cases hk0 : k = 0
      · have ha : axAt l k = true := by rw [axAt_of gx rfl]; simp [far6, hf, hk0]
        have hk0' : ((0 : Int) < k) = False := eq_false (by omega)
        have hk0n : (0 < k) = False := eq_false (by omega)
        simp -dsimp [hki]
        repeat' (first | omega | (simp -dsimp [E102, ri, cellp, ints, hki, hk1, hx, hx', hf, hk0', hk0n, wk]) | (refine Also.intro ?_ fun _ => ?_) | (refine Hold.intro fun _ => ?_) | (refine And.intro ?_ ?_))
        refine ⟨k + 1, tle_chain rfl ?_, HLe.refl _, ⟨by omega, fun j hj => ?_⟩, by omega⟩
        · simp [okAll, okv]
        · have : j = k := by omega
          subst this; exact ha
      · have hk0' : ((0 : Int) < k) = True := eq_true (by omega)
        have hk0n : (0 < k) = True := eq_true (by omega)
        have wkm : IntKind.wrap .i64 ((k : Int) - 1) = (k - 1 : Nat) := by rw [wrap_id (by omega) (by omega)]; omega
        have hkm : k - 1 < l.length := by omega
        obtain ⟨y, hy, hy'⟩ := get_ex hkm
        have gy : l.getD (k - 1) 0 = y := by simp [List.getD, hy]
        have hyr : -1000000 ≤ y ∧ y ≤ 1000000 := by
          have := hall (k - 1) (by omega)
          simp only [axAt, gy, far6, Bool.and_eq_true, Bool.not_not] at this
          simpa [withinB] using this.1
        have wxy : IntKind.wrap .i64 (x - y) = x - y := wrap_id (by omega) (by omega)
        cases hd : withinB (x - y) 1 10000
        · have hz := axB_no hk1 (by rw [axAt_of gx gy]; simp [hd, hk0])
          simp -dsimp [hki]
          repeat' (first | omega | (simp -dsimp [E102, ri, cellp, ints, hki, hk1, hx, hx', hf, hk0', hk0n, wkm, hkm, hy, hy', wxy, hd, hz]) | (refine Also.intro ?_ fun _ => ?_) | (refine Hold.intro fun _ => ?_) | (refine And.intro ?_ ?_))
        · have ha : axAt l k = true := by rw [axAt_of gx gy]; simp [hd, far6, hf]
          simp -dsimp [hki]
          repeat' (first | omega | (simp -dsimp [E102, ri, cellp, ints, hki, hk1, hx, hx', hf, hk0', hk0n, wkm, hkm, hy, hy', wxy, hd, wk]) | (refine Also.intro ?_ fun _ => ?_) | (refine Hold.intro fun _ => ?_) | (refine And.intro ?_ ?_))
          refine ⟨k + 1, tle_chain rfl ?_, HLe.refl _, ⟨by omega, fun j hj => ?_⟩, by omega⟩
          · simp [okAll, okv]
          · by_cases e : j = k
            · subst e; exact ha
            · exact hall j (by omega)
  have hkn : ((k : Int) < l.length) = False := eq_false (by omega)
  have hz := axB_ok h1 fun j hj => hall j (by omega)
  simp -dsimp [hkn]
  repeat' (first | omega | (simp -dsimp [E102, ri, cellp, ints, hkn, hz]) | (refine Also.intro ?_ fun _ => ?_) | (refine Hold.intro fun _ => ?_) | (refine And.intro ?_ ?_))
theorem ok102 : FnOK Tryz.prog 102 (.pure axS) := pure_fn (E := E102) rfl (.cons ok71 .nil) (ok := []) (fn := Tryz.f102) (by kernel_rfl) (by kernel_rfl) (by kernel_rfl) (by kernel_rfl) rfl (fun _ _ => by simp) b102
structure TrD where
  t : Tb
  r : List Int
  deriving Inhabited
def tabI (t : Tb) : V := .ip 3 [tabR t] 0 0
def fnI : V := .ip 1 [[.fn 99 []]] 0 0
@[simp] def trE (d : TrD) : List V := [ints d.r, tabI d.t, fnI]
theorem trE_inj (a b : TrD) (h : trE a = trE b) : a = b := by
  obtain ⟨a1, a2⟩ := a; obtain ⟨b1, b2⟩ := b
  simp only [trE, List.cons.injEq, tabI, V.ip.injEq, true_and, and_true] at h
  rw [tabR_inj _ _ h.2, ints_inj _ _ h.1]
theorem trE_dec (t : Tb) (r : List Int) : decC trE [.sl 1 (r.map ri), .ip 3 [[.sl 1 (t.xs.map ri), .sl 1 (t.ys.map ri), .sl 1 (t.vs.map rwI)]] 0 0, .ip 1 [[.fn 99 []]] 0 0] = ⟨t, r⟩ := decC_eq trE_inj ⟨t, r⟩
def rowBad (t : Tb) (r : List Int) : Bool := !decide (r.length = t.ys.length) || r.any far6
noncomputable abbrev trS : PSpec := mkP trE (fun d => d.t.ys.length ≤ 1000000) fun d => .bool (rowBad d.t d.r)
noncomputable abbrev E100 : Env := { P := Tryz.prog, fn := tbl [(101, .pure faranS), (99, .pure outS)], own := [], key := 10000, nt := 16 }
theorem b100 : PureBody E100 [] Tryz.f100 trS := by
  refine pb ?_
  rintro ⟨t, r⟩ hl
  have hl : t.ys.length ≤ 1000000 := hl
  by_cases h : r.length = t.ys.length
  · have hi : (r.length : Int) = t.ys.length := by omega
    simp -dsimp [Tryz.f100, E100, tabI, tabR, fnI]
    repeat' (first | omega | (simp -dsimp [E100, ri, cellp, ints, hl, h, hi, tabR, farsE_dec, rowBad]) | (refine Also.intro ?_ fun _ => ?_) | (refine Hold.intro fun _ => ?_) | (refine And.intro ?_ ?_))
  · have hi : ((r.length : Int) = t.ys.length) = False := eq_false (by omega)
    simp -dsimp [Tryz.f100, E100, tabI, tabR, fnI]
    repeat' (first | omega | (simp -dsimp [E100, ri, cellp, ints, hl, h, hi, tabR, farsE_dec, rowBad]) | (refine Also.intro ?_ fun _ => ?_) | (refine Hold.intro fun _ => ?_) | (refine And.intro ?_ ?_))
theorem ok100 : FnOK Tryz.prog 100 (.pure trS) := pure_fn (E := E100) rfl (.cons ok101 (.cons ok99 .nil)) (ok := []) (fn := Tryz.f100) (by kernel_rfl) (by kernel_rfl) (by kernel_rfl) (by kernel_rfl) rfl (fun _ _ => by simp) b100
end Go.Sx.Tab
end
section
/- Tables: valid tables, spans on them, the part of an axis. No conditions. -/
set_option linter.unusedSimpArgs false
set_option linter.unusedSectionVars false
set_option maxRecDepth 100000
set_option maxHeartbeats 4000000
namespace Go.Sx.Tab
open Go.Proofs Go.Sx
attribute [local irreducible] HLe
attribute [local simp] hps_app
structure TvD where
  t : Tb
  l : List (List Int)
  deriving Inhabited
@[simp] def tvE (d : TvD) : List V := [.sl 1 (d.l.map rwI), .fn 100 [tabI d.t, fnI]]
theorem tvE_inj (a b : TvD) (h : tvE a = tvE b) : a = b := by
  obtain ⟨a1, a2⟩ := a; obtain ⟨b1, b2⟩ := b
  simp only [tvE, List.cons.injEq, tabI, V.fn.injEq, V.ip.injEq, V.sl.injEq, true_and, and_true] at h
  rw [tabR_inj _ _ h.2, mapRow_inj rwI_inj h.1]
theorem tvE_dec (t : Tb) (l : List (List Int)) : decC tvE [.sl 1 (l.map rwI), .fn 100 [.ip 3 [[.sl 1 (t.xs.map ri), .sl 1 (t.ys.map ri), .sl 1 (t.vs.map rwI)]] 0 0, .ip 1 [[.fn 99 []]] 0 0]] = ⟨t, l⟩ := decC_eq tvE_inj ⟨t, l⟩
structure TvP (d : TvD) : Prop where
  y : d.t.ys.length ≤ 1000000
  n : d.l.length ≤ 1000000
noncomputable abbrev tviS : PSpec := mkP tvE TvP fun d => .int .i64 (idxZ d.l (rowBad d.t))
noncomputable abbrev tvaS : PSpec := mkP tvE TvP fun d => .bool (d.l.any (rowBad d.t))
noncomputable abbrev E120 : Env := { P := Tryz.prog, fn := tbl [(100, .pure trS)], own := [], key := 12000, nt := 19 }
theorem b120 : PureBody E120 [] Tryz.f120 tviS := by
  refine pb ?_
  rintro ⟨t, l⟩ ⟨hy, hl⟩
  simp only at hy hl
  simp -dsimp [Tryz.f120, E120, tabI, fnI, tabR]
  refine awp_loop [9, 10, 5, 11, 12, 13, 14, 15, 16, 17, 4, 18, 8] (fun k : { k : Nat // k ≤ l.length ∧ ∀ j (h : j < l.length), j < k → rowBad t l[j] = false } => [(8, (true, .int .i64 k.1))]) (fun _ => noH) (fun k => l.length - k.1) ⟨0, by omega, fun _ _ h => by omega⟩ ?_ (HLe.refl _) ?_
  · simp [okAll, okv]
  rintro ⟨k, hk, hall⟩
  by_cases hk1 : k < l.length
  · have hki : (k : Int) < l.length := by omega
    have wk : IntKind.wrap .i64 ((k : Int) + 1) = (k + 1 : Nat) := wrap_id (by omega) (by omega)
    obtain ⟨r, hg, hg'⟩ := get_ex hk1
    cases hw : rowBad t r
    · simp -dsimp [hki]
      repeat' (first | omega | (simp -dsimp [E120, ri, cellp, ints, hki, hk1, hl, hy, hw, wk, hg, hg', trE_dec, rwI, tabI, tabR, fnI]) | (refine Also.intro ?_ fun _ => ?_) | (refine Hold.intro fun _ => ?_) | (refine And.intro ?_ ?_))
      refine ⟨k + 1, tle_chain rfl ?_, HLe.refl _, ⟨by omega, fun j h hj => ?_⟩, by omega⟩
      · simp [okAll, okv]
      · by_cases hjk : j = k
        · subst hjk; rw [hg']; exact hw
        · exact hall j h (by omega)
    · have hz := idxZ_at l (rowBad t) hk1 (by rw [hg']; exact hw) hall
      simp -dsimp [hki]
      repeat' (first | omega | (simp -dsimp [E120, ri, cellp, ints, hki, hk1, hl, hy, hw, wk, hz, hg, hg', trE_dec, rwI, tabI, tabR, fnI]) | (refine Also.intro ?_ fun _ => ?_) | (refine Hold.intro fun _ => ?_) | (refine And.intro ?_ ?_))
  · have hkn : ¬ (k : Int) < l.length := by omega
    have hz := idxZ_none l (rowBad t) (fun j h => hall j h (by omega))
    simp -dsimp [hkn]
    repeat' (first | omega | (simp -dsimp [E120, ri, cellp, ints, hkn, hz]) | (refine Also.intro ?_ fun _ => ?_) | (refine Hold.intro fun _ => ?_) | (refine And.intro ?_ ?_))
theorem ok120 : FnOK Tryz.prog 120 (.pure tviS) := pure_fn (E := E120) rfl (.cons ok100 .nil) (ok := []) (fn := Tryz.f120) (by kernel_rfl) (by kernel_rfl) (by kernel_rfl) (by kernel_rfl) rfl (fun _ _ => by simp) b120
noncomputable abbrev E103 : Env := { P := Tryz.prog, fn := tbl [(120, .pure tviS)], own := [], key := 10300, nt := 9 }
theorem b103 : PureBody E103 [] Tryz.f103 tvaS := by
  refine pb ?_
  rintro ⟨t, l⟩ hP
  have hz := idxZ_any l (rowBad t)
  have hd := tvE_dec t l
  simp -dsimp [Tryz.f103, E103, tabI, fnI, tabR]
  repeat' (first | omega | (simp -dsimp [E103, ri, cellp, ints, hP, hd, hz, tabI, fnI, tabR]) | (refine Also.intro ?_ fun _ => ?_) | (refine Hold.intro fun _ => ?_) | (refine And.intro ?_ ?_))
theorem ok103 : FnOK Tryz.prog 103 (.pure tvaS) := pure_fn (E := E103) rfl (.cons ok120 .nil) (ok := []) (fn := Tryz.f103) (by kernel_rfl) (by kernel_rfl) (by kernel_rfl) (by kernel_rfl) rfl (fun _ _ => by simp) b103
@[simp] def tbE (t : Tb) : List V := [.agg (tabR t)]
theorem tbE_inj (a b : Tb) (h : tbE a = tbE b) : a = b := tabR_inj _ _ (by simpa using h)
theorem tbE_dec (t : Tb) : decC tbE [.agg [.sl 1 (t.xs.map ri), .sl 1 (t.ys.map ri), .sl 1 (t.vs.map rwI)]] = t := decC_eq tbE_inj t
def tbB (t : Tb) : Bool := axB t.xs && (axB t.ys && (decide (t.vs.length = t.xs.length) && !t.vs.any (rowBad t)))
structure TbP (t : Tb) : Prop where
  x : t.xs.length ≤ 1000000000000000000
  y : t.ys.length ≤ 1000000000000000000
  v : t.vs.length ≤ 1000000000000000000
noncomputable abbrev ctS : PSpec := mkP tbE TbP fun t => .int .i64 (if tbB t = true then 0 else 11)
theorem axB_len {l : List Int} (h : axB l = true) : 2 ≤ l.length ∧ l.length ≤ 12 := by
  simp only [axB, Bool.and_eq_true] at h
  have : 2 ≤ (l.length : Int) ∧ (l.length : Int) ≤ 12 := by simpa [withinB] using h.1
  omega
noncomputable abbrev E65 : Env := { P := Tryz.prog, fn := tbl [(99, .pure outS), (100, .pure trS), (102, .pure axS), (103, .pure tvaS)], own := [], key := 6500, nt := 31 }
theorem b65 : PureBody E65 [] Tryz.f65 ctS := by
  refine pb ?_
  rintro t ⟨bx, by', bv⟩
  have bx' : t.xs.length ≤ 9223372036854775807 := by omega
  have by'' : t.ys.length ≤ 9223372036854775807 := by omega
  cases h1 : axB t.xs
  · have hz : tbB t = false := by simp [tbB, h1]
    simp -dsimp [Tryz.f65, E65, tabR]
    repeat' (first | omega | (simp -dsimp [E65, ri, cellp, ints, bx', by'', h1, inE_dec, hz]) | (refine Also.intro ?_ fun _ => ?_) | (refine Hold.intro fun _ => ?_) | (refine And.intro ?_ ?_))
  cases h2 : axB t.ys
  · have hz : tbB t = false := by simp [tbB, h1, h2]
    simp -dsimp [Tryz.f65, E65, tabR]
    repeat' (first | omega | (simp -dsimp [E65, ri, cellp, ints, bx', by'', h1, h2, inE_dec, hz]) | (refine Also.intro ?_ fun _ => ?_) | (refine Hold.intro fun _ => ?_) | (refine And.intro ?_ ?_))
  by_cases h3 : t.vs.length = t.xs.length
  case neg =>
    have h3' : ((t.vs.length : Int) = t.xs.length) = False := eq_false (by omega)
    have hz : tbB t = false := by simp [tbB, h1, h2, h3]
    simp -dsimp [Tryz.f65, E65, tabR]
    repeat' (first | omega | (simp -dsimp [E65, ri, cellp, ints, bx', by'', h1, h2, h3, h3', inE_dec, hz]) | (refine Also.intro ?_ fun _ => ?_) | (refine Hold.intro fun _ => ?_) | (refine And.intro ?_ ?_))
  have h3' : ((t.vs.length : Int) = t.xs.length) = True := eq_true (by omega)
  have l1 := axB_len h1
  have l2 := axB_len h2
  have hP : TvP ⟨t, t.vs⟩ := ⟨by simp only; omega, by simp only; omega⟩
  cases h4 : t.vs.any (rowBad t)
  · have hz : tbB t = true := by simp [tbB, h1, h2, h3, h4]
    simp -dsimp [Tryz.f65, E65, tabR]
    repeat' (first | omega | (simp -dsimp [E65, ri, cellp, ints, bx', by'', h1, h2, h3, h3', h4, hP, tvE_dec, inE_dec, tabI, fnI, tabR, hz]) | (refine Also.intro ?_ fun _ => ?_) | (refine Hold.intro fun _ => ?_) | (refine And.intro ?_ ?_))
  · have hz : tbB t = false := by simp [tbB, h1, h2, h3, h4]
    simp -dsimp [Tryz.f65, E65, tabR]
    repeat' (first | omega | (simp -dsimp [E65, ri, cellp, ints, bx', by'', h1, h2, h3, h3', h4, hP, tvE_dec, inE_dec, tabI, fnI, tabR, hz]) | (refine Also.intro ?_ fun _ => ?_) | (refine Hold.intro fun _ => ?_) | (refine And.intro ?_ ?_))
theorem ok65 : FnOK Tryz.prog 65 (.pure ctS) := pure_fn (E := E65) rfl (.cons ok99 (.cons ok100 (.cons ok102 (.cons ok103 .nil)))) (ok := []) (fn := Tryz.f65) (by kernel_rfl) (by kernel_rfl) (by kernel_rfl) (by kernel_rfl) rfl (fun _ _ => by simp) b65
@[simp] def lsE (d : List Int × Sp) : List V := [ints d.1, .agg d.2.row]
theorem lsE_inj (a b : List Int × Sp) (h : lsE a = lsE b) : a = b := by
  obtain ⟨a1, a2⟩ := a; obtain ⟨b1, b2⟩ := b
  simp only [lsE, List.cons.injEq, V.agg.injEq, and_true] at h
  rw [ints_inj _ _ h.1, Sp.row_inj _ _ h.2]
theorem lsE_dec (l : List Int) (s : Sp) : decC lsE [.sl 1 (l.map ri), .agg [.int .i64 s.lo, .int .i64 s.hi]] = (l, s) := decC_eq lsE_inj (l, s)
def lieB (l : List Int) (s : Sp) : Bool := decide (l.getD 0 0 ≤ s.lo) && decide (s.hi ≤ l.getD (l.length - 1) 0)
noncomputable abbrev lieS : PSpec := mkP lsE (fun d => 0 < d.1.length ∧ d.1.length ≤ 1000000) fun d => .bool (lieB d.1 d.2)
noncomputable abbrev E67 : Env := { P := Tryz.prog, fn := tbl [], own := [], key := 6700, nt := 22 }
theorem b67 : PureBody E67 [] Tryz.f67 lieS := by
  refine pb ?_
  rintro ⟨l, s⟩ ⟨h0, hl⟩
  simp only at h0 hl
  obtain ⟨x, hx, hx'⟩ := get_ex h0
  have hm : l.length - 1 < l.length := by omega
  obtain ⟨y, hy, hy'⟩ := get_ex hm
  have gx : l.getD 0 0 = x := by simp [List.getD, hx]
  have gy : l.getD (l.length - 1) 0 = y := by simp [List.getD, hy]
  have wl : IntKind.wrap .i64 ((l.length : Int) - 1) = (l.length - 1 : Nat) := by rw [wrap_id (by omega) (by omega)]; omega
  have hz : lieB l s = (decide (x ≤ s.lo) && decide (s.hi ≤ y)) := by rw [lieB, gx, gy]
  by_cases h1 : x ≤ s.lo
  · simp -dsimp [Tryz.f67, E67, Sp.row]
    repeat' (first | omega | (simp -dsimp [E67, ri, cellp, ints, h0, hl, hx, hx', hm, hy, hy', wl, hz, h1, Sp.row]) | (refine Also.intro ?_ fun _ => ?_) | (refine Hold.intro fun _ => ?_) | (refine And.intro ?_ ?_))
  · simp -dsimp [Tryz.f67, E67, Sp.row]
    repeat' (first | omega | (simp -dsimp [E67, ri, cellp, ints, h0, hl, hx, hx', hm, hy, hy', wl, hz, h1, Sp.row]) | (refine Also.intro ?_ fun _ => ?_) | (refine Hold.intro fun _ => ?_) | (refine And.intro ?_ ?_))
theorem ok67 : FnOK Tryz.prog 67 (.pure lieS) := pure_fn (E := E67) rfl LOK.nil (ok := []) (fn := Tryz.f67) (by kernel_rfl) (by kernel_rfl) (by kernel_rfl) (by kernel_rfl) rfl (fun _ _ => by simp) b67
end Go.Sx.Tab
end
