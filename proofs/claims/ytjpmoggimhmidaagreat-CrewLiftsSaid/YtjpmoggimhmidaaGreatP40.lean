/- A part of a proof; no conditions. -/
import Derived.Test.YtjpmoggimhmidaaGreatP39
import Derived.Test.YtjpmoggimhmidaaGreatP28
import Derived.Test.YtjpmoggimhmidaaGreatP22
set_option linter.unusedSimpArgs false
set_option linter.unusedVariables false
set_option linter.unusedSectionVars false
section
/- Crew: cabins, guests, loads. No conditions. -/
set_option linter.unusedSimpArgs false
set_option linter.unusedSectionVars false
set_option maxRecDepth 100000
set_option maxHeartbeats 2000000
namespace Go.Sx
open Go.Proofs
attribute [local irreducible] HLe

theorem ri_inj' (a b : Int) (h : ri a = ri b) : a = b := by simpa [ri] using h
def armN (n : Int) : Bool := !withinB n (-1000) 1000
abbrev armS : PSpec := int1S armN
noncomputable abbrev E68 : Env := { P := Tryz.prog, fn := tbl [(29, .pure withinS)], own := [], key := 6800, nt := 6 }
theorem b68 : PureBody E68 [] Tryz.f68 armS := by
  refine pb ?_
  rintro n _
  simp -dsimp [Tryz.f68, E68, armN]
  repeat' (first | omega | (simp -dsimp [E68, ri, cellp, ints, armN]) | (refine Also.intro ?_ fun _ => ?_) | (refine Hold.intro fun _ => ?_) | (refine And.intro ?_ ?_))
theorem ok68 : FnOK Tryz.prog 68 (.pure armS) := pure_fn (E := E68) rfl (.cons ok29 .nil) (ok := []) (fn := Tryz.f68) (by kernel_rfl) (by kernel_rfl) (by kernel_rfl) (by kernel_rfl) rfl (fun _ _ => by simp) b68
@[simp] def amsE (d : List Int) : List V := [.sl 1 (d.map ri), .fn 68 []]
theorem amsE_inj (a b : List Int) (h : amsE a = amsE b) : a = b := by
  simp only [amsE, List.cons.injEq, V.sl.injEq, true_and, and_true] at h
  exact mapRow_inj ri_inj' h
theorem amsE_dec (l : List Int) : decC amsE [.sl 1 (l.map ri), .fn 68 []] = l := decC_eq amsE_inj l
noncomputable abbrev amixS : PSpec := mkP amsE (fun d => d.length ≤ 1000000) fun d => .int .i64 (idxZ d armN)
noncomputable abbrev amanS : PSpec := mkP amsE (fun d => d.length ≤ 1000000) fun d => .bool (d.any armN)
noncomputable abbrev E95 : Env := { P := Tryz.prog, fn := tbl [(68, .pure armS)], own := [], key := 9500, nt := 19 }
theorem b95 : PureBody E95 [] Tryz.f95 amixS := by
  refine pb ?_
  rintro l hl
  have hl : l.length ≤ 1000000 := hl
  simp -dsimp [Tryz.f95, E95]
  refine awp_loop [9, 10, 5, 11, 12, 13, 14, 15, 16, 17, 4, 18, 8] (fun k : { k : Nat // k ≤ l.length ∧ ∀ j (h : j < l.length), j < k → armN l[j] = false } => [(8, (true, .int .i64 k.1))]) (fun _ => noH) (fun k => l.length - k.1) ⟨0, by omega, fun _ _ h => by omega⟩ ?_ (HLe.refl _) ?_
  · simp [okAll, okv]
  rintro ⟨k, hk, hall⟩
  by_cases hk1 : k < l.length
  · have hki : (k : Int) < l.length := by omega
    have wk : IntKind.wrap .i64 ((k : Int) + 1) = (k + 1 : Nat) := wrap_id (by omega) (by omega)
    cases hw : armN l[k]
    · simp -dsimp [hki]
      repeat' (first | omega | (simp -dsimp [E95, ri, cellp, ints, hki, hk1, hl, hw, wk, ri]) | (refine Also.intro ?_ fun _ => ?_) | (refine Hold.intro fun _ => ?_) | (refine And.intro ?_ ?_))
      refine ⟨k + 1, tle_chain rfl ?_, HLe.refl _, ⟨by omega, fun j h hj => ?_⟩, by omega⟩
      · simp [okAll, okv]
      · by_cases hjk : j = k
        · subst hjk; exact hw
        · exact hall j h (by omega)
    · have hz := idxZ_at l armN hk1 hw hall
      simp -dsimp [hki]
      repeat' (first | omega | (simp -dsimp [E95, ri, cellp, ints, hki, hk1, hl, hw, wk, hz, ri]) | (refine Also.intro ?_ fun _ => ?_) | (refine Hold.intro fun _ => ?_) | (refine And.intro ?_ ?_))
  · have hkn : ¬ (k : Int) < l.length := by omega
    have hz := idxZ_none l armN (fun j h => hall j h (by omega))
    simp -dsimp [hkn]
    repeat' (first | omega | (simp -dsimp [E95, ri, cellp, ints, hkn, hz]) | (refine Also.intro ?_ fun _ => ?_) | (refine Hold.intro fun _ => ?_) | (refine And.intro ?_ ?_))
theorem ok95 : FnOK Tryz.prog 95 (.pure amixS) := pure_fn (E := E95) rfl (.cons ok68 .nil) (ok := []) (fn := Tryz.f95) (by kernel_rfl) (by kernel_rfl) (by kernel_rfl) (by kernel_rfl) rfl (fun _ _ => by simp) b95
noncomputable abbrev E67 : Env := { P := Tryz.prog, fn := tbl [(95, .pure amixS)], own := [], key := 6700, nt := 9 }
theorem b67 : PureBody E67 [] Tryz.f67 amanS := by
  refine pb ?_
  rintro l hl
  have hl : l.length ≤ 1000000 := hl
  have hz := idxZ_any l armN
  simp -dsimp [Tryz.f67, E67]
  repeat' (first | omega | (simp -dsimp [E67, ri, cellp, ints, hl, amsE_dec, hz]) | (refine Also.intro ?_ fun _ => ?_) | (refine Hold.intro fun _ => ?_) | (refine And.intro ?_ ?_))
theorem ok67 : FnOK Tryz.prog 67 (.pure amanS) := pure_fn (E := E67) rfl (.cons ok95 .nil) (ok := []) (fn := Tryz.f67) (by kernel_rfl) (by kernel_rfl) (by kernel_rfl) (by kernel_rfl) rfl (fun _ _ => by simp) b67
@[simp] def caE (c : Ca) : List V := [.agg c.row]
theorem caE_inj (a b : Ca) (h : caE a = caE b) : a = b := Ca.row_inj _ _ (by simpa using h)
theorem caE_dec (c : Ca) : decC caE [.agg [.int .i64 c.emp, .int .i64 c.arm, .sl 2 (c.st.map Se.row), .int .i64 c.farm, .int .i64 c.low, .int .i64 c.high]] = c := decC_eq caE_inj c
def armsTo (c : Ca) (k : Nat) : List Int := [c.arm, c.farm, c.low, c.high] ++ (c.st.take k).map Se.arm
theorem armsTo_succ (c : Ca) {k : Nat} {s : Se} (h : c.st[k]? = some s) : armsTo c (k + 1) = armsTo c k ++ [s.arm] := by
  have hk : k < c.st.length := (List.getElem?_eq_some_iff.1 h).1
  unfold armsTo
  rw [take_snoc c.st hk, List.map_append, List.append_assoc, show c.st.getD k default = s by simp [List.getD, h]]; rfl
theorem armsTo_len (c : Ca) {k : Nat} (h : k ≤ c.st.length) : (armsTo c k).length = k + 4 := by simp [armsTo]; omega
theorem ca_ok (c : Ca) : c.ok = (withinB c.emp 1 100000 && decide (c.st.length ≤ 8) && decide (c.low ≤ c.high) && !((armsTo c c.st.length).any armN)) := by
  have e0 : armN = fun n => !armB n := rfl
  have e : (armsTo c c.st.length).any armN = !(armB c.arm && armB c.farm && armB c.low && armB c.high && c.st.all fun s => armB s.arm) := by
    unfold armsTo
    rw [List.take_length, e0, ← List.not_all_eq_any_not]
    simp [List.all_append, List.all_map, Function.comp_def, Bool.and_assoc]
  rw [e, Bool.not_not, Ca.ok, withinB]
  simp only [Bool.and_assoc]
noncomputable abbrev cabS : PSpec := mkP caE (fun c => c.st.length ≤ 900000) fun c => .int .i64 (if c.ok = true then 0 else 102)
noncomputable abbrev E39 : Env := { P := Tryz.prog, fn := tbl [(29, .pure withinS), (67, .pure amanS)], own := [14], key := 3900, nt := 49 }
theorem b39 : PureBody E39 [] Tryz.f39 cabS := by
  refine pb ?_
  rintro c hl
  have hl : c.st.length ≤ 900000 := hl
  have hok := ca_ok c
  simp -dsimp [Tryz.f39, E39, Ca.row]
  repeat' (first | omega | (simp -dsimp [E39, ri, cellp, ints, Ca.row]) | (refine Also.intro ?_ fun _ => ?_) | (refine Hold.intro fun _ => ?_) | (refine And.intro ?_ ?_))
  refine awp_loop [19, 20, 21, 5, 22, 23, 24, 25, 26, 3, 27, 18] (fun k : { k : Nat // k ≤ c.st.length } => [(18, (true, .int .i64 k.1)), (3, (true, .bsl 3914 0 (k.1 + 4)))]) (fun k => hps [(3905, { base := k.1, blks := [] }), (3914, { base := 0, blks := [{ z := 1, els := (armsTo c k.1).map ri, ty := 3 }] }), (3901, { base := 0, blks := [{ z := 6, els := [c.row], ty := 36 }] })] noH) (fun k => c.st.length - k.1) ⟨0, by omega⟩ ?_ ?_ ?_
  · simp [okAll, okv]
  · exact (by (try simp -dsimp only [hpush_noH, hpush_hps, hps_over]); refine hle_hps ?_; simp -dsimp [allK, armsTo, ri, Ca.row]; repeat' (first | (refine And.intro ?_ ?_) | (refine sLe.same ?_ ?_ <;> (simp; done)) | (refine sLe.clear ?_ ?_ <;> (first | (simp; done) | (simp; omega))) | (refine sLe.drop 1 ?_ ?_ ?_ <;> (simp; done))))
  rintro ⟨k, hk⟩
  dsimp only
  have hal := armsTo_len c hk
  by_cases hk1 : k < c.st.length
  · have hki : (k : Int) < c.st.length := by omega
    have wk : IntKind.wrap .i64 ((k : Int) + 1) = (k + 1 : Nat) := wrap_id (by omega) (by omega)
    obtain ⟨s, hs⟩ : ∃ s, c.st[k]? = some s := ⟨_, List.getElem?_eq_getElem hk1⟩
    have hs' : c.st[k] = s := (List.getElem?_eq_some_iff.1 hs).2
    have hsu := armsTo_succ c hs
    simp -dsimp [hki]
    repeat' (first | omega | (simp -dsimp [E39, ri, cellp, ints, hki, hk1, wk, hs, hs', hal, Se.row, Ca.row]) | (refine Also.intro ?_ fun _ => ?_) | (refine Hold.intro fun _ => ?_) | (refine And.intro ?_ ?_))
    refine ⟨k + 1, tle_chain rfl ?_, ?_, by omega, by omega⟩
    · simp [okAll, okv]
    · exact (by (try simp -dsimp only [hpush_noH, hpush_hps, hps_over]); refine hle_hps ?_; simp -dsimp [allK, hsu, ri, Ca.row]; repeat' (first | (refine And.intro ?_ ?_) | (refine sLe.same ?_ ?_ <;> (simp; done)) | (refine sLe.clear ?_ ?_ <;> (first | (simp; done) | (simp; omega))) | (refine sLe.drop 1 ?_ ?_ ?_ <;> (simp; done))))
  · have hkn : ¬ (k : Int) < c.st.length := by omega
    have hke : k = c.st.length := by omega
    subst hke
    generalize hA : armsTo c c.st.length = A at *
    generalize c1 : withinB c.emp 1 100000 = b1 at hok
    generalize c4 : A.any armN = b4 at hok
    simp -dsimp [hkn]
    repeat' (first | omega | (simp -dsimp [E39, ri, cellp, ints, hkn, hal, amsE_dec, c1, c4, Ca.row]) | (refine Also.intro ?_ fun _ => ?_) | (refine Hold.intro fun _ => ?_) | (refine And.intro ?_ ?_))
    · intro h1 h2 h3
      exact ⟨⟨⟨h1, h2⟩, h3⟩, by omega⟩
    · rename_i h
      rw [hok]
      rcases h with ((h | h) | h) | h
      · simp [h]
      · rw [decide_eq_false (by omega : ¬ c.st.length ≤ 8)]; simp
      · rw [decide_eq_false (by omega : ¬ c.low ≤ c.high)]; simp
      · simp [h]
    · rename_i h
      rw [hok, h.1.1.1, h.2, decide_eq_true h.1.2, decide_eq_true (by omega : c.st.length ≤ 8)]; rfl
theorem ok39 : FnOK Tryz.prog 39 (.pure cabS) := pure_fn (E := E39) rfl (.cons ok29 (.cons ok67 .nil)) (ok := []) (fn := Tryz.f39) (by kernel_rfl) (by kernel_rfl) (by kernel_rfl) (by kernel_rfl) rfl (fun _ _ => by simp) b39

/-! guests -/
def guN (g : Gu) : Bool := !(withinB g.w 1 500) || !(withinB g.dive 0 2000)
theorem gu_ok (g : Gu) : g.ok = !guN g := by simp [guN, Gu.ok, withinB]
@[simp] def guE (g : Gu) : List V := [.agg g.row]
theorem guE_inj (a b : Gu) (h : guE a = guE b) : a = b := Gu.row_inj _ _ (by simpa using h)
theorem guE_dec (g : Gu) : decC guE [.agg [.int .i64 g.w, .bool g.suit, .int .i64 g.dive, .bool g.able]] = g := decC_eq guE_inj g
noncomputable abbrev guS : PSpec := mkP guE (fun _ => True) fun g => .bool (guN g)
noncomputable abbrev E70 : Env := { P := Tryz.prog, fn := tbl [(29, .pure withinS), (30, .pure timeS)], own := [], key := 7000, nt := 13 }
theorem b70 : PureBody E70 [] Tryz.f70 guS := by
  refine pb ?_
  rintro g _
  simp -dsimp [Tryz.f70, E70, Gu.row, guN]
  repeat' (first | omega | (simp -dsimp [E70, ri, cellp, ints, Gu.row, guN]) | (refine Also.intro ?_ fun _ => ?_) | (refine Hold.intro fun _ => ?_) | (refine And.intro ?_ ?_))
theorem ok70 : FnOK Tryz.prog 70 (.pure guS) := pure_fn (E := E70) rfl (.cons ok29 (.cons ok30 .nil)) (ok := []) (fn := Tryz.f70) (by kernel_rfl) (by kernel_rfl) (by kernel_rfl) (by kernel_rfl) rfl (fun _ _ => by simp) b70
@[simp] def gussE (d : List Gu) : List V := [.sl 4 (d.map Gu.row), .fn 70 []]
theorem gussE_inj (a b : List Gu) (h : gussE a = gussE b) : a = b := by
  simp only [gussE, List.cons.injEq, V.sl.injEq, true_and, and_true] at h
  exact mapRow_inj Gu.row_inj h
theorem gussE_dec (l : List Gu) : decC gussE [.sl 4 (l.map Gu.row), .fn 70 []] = l := decC_eq gussE_inj l
noncomputable abbrev gusixS : PSpec := mkP gussE (fun d => d.length ≤ 1000000) fun d => .int .i64 (idxZ d guN)
noncomputable abbrev gusanS : PSpec := mkP gussE (fun d => d.length ≤ 1000000) fun d => .bool (d.any guN)
noncomputable abbrev E96 : Env := { P := Tryz.prog, fn := tbl [(70, .pure guS)], own := [], key := 9600, nt := 19 }
theorem b96 : PureBody E96 [] Tryz.f96 gusixS := by
  refine pb ?_
  rintro l hl
  have hl : l.length ≤ 1000000 := hl
  simp -dsimp [Tryz.f96, E96]
  refine awp_loop [9, 10, 5, 11, 12, 13, 14, 15, 16, 17, 4, 18, 8] (fun k : { k : Nat // k ≤ l.length ∧ ∀ j (h : j < l.length), j < k → guN l[j] = false } => [(8, (true, .int .i64 k.1))]) (fun _ => noH) (fun k => l.length - k.1) ⟨0, by omega, fun _ _ h => by omega⟩ ?_ (HLe.refl _) ?_
  · simp [okAll, okv]
  rintro ⟨k, hk, hall⟩
  by_cases hk1 : k < l.length
  · have hki : (k : Int) < l.length := by omega
    have wk : IntKind.wrap .i64 ((k : Int) + 1) = (k + 1 : Nat) := wrap_id (by omega) (by omega)
    cases hw : guN l[k]
    · simp -dsimp [hki]
      repeat' (first | omega | (simp -dsimp [E96, ri, cellp, ints, hki, hk1, hl, hw, wk, Gu.row, guE_dec]) | (refine Also.intro ?_ fun _ => ?_) | (refine Hold.intro fun _ => ?_) | (refine And.intro ?_ ?_))
      refine ⟨k + 1, tle_chain rfl ?_, HLe.refl _, ⟨by omega, fun j h hj => ?_⟩, by omega⟩
      · simp [okAll, okv]
      · by_cases hjk : j = k
        · subst hjk; exact hw
        · exact hall j h (by omega)
    · have hz := idxZ_at l guN hk1 hw hall
      simp -dsimp [hki]
      repeat' (first | omega | (simp -dsimp [E96, ri, cellp, ints, hki, hk1, hl, hw, wk, hz, Gu.row, guE_dec]) | (refine Also.intro ?_ fun _ => ?_) | (refine Hold.intro fun _ => ?_) | (refine And.intro ?_ ?_))
  · have hkn : ¬ (k : Int) < l.length := by omega
    have hz := idxZ_none l guN (fun j h => hall j h (by omega))
    simp -dsimp [hkn]
    repeat' (first | omega | (simp -dsimp [E96, ri, cellp, ints, hkn, hz]) | (refine Also.intro ?_ fun _ => ?_) | (refine Hold.intro fun _ => ?_) | (refine And.intro ?_ ?_))
theorem ok96 : FnOK Tryz.prog 96 (.pure gusixS) := pure_fn (E := E96) rfl (.cons ok70 .nil) (ok := []) (fn := Tryz.f96) (by kernel_rfl) (by kernel_rfl) (by kernel_rfl) (by kernel_rfl) rfl (fun _ _ => by simp) b96
noncomputable abbrev E69 : Env := { P := Tryz.prog, fn := tbl [(96, .pure gusixS)], own := [], key := 6900, nt := 9 }
theorem b69 : PureBody E69 [] Tryz.f69 gusanS := by
  refine pb ?_
  rintro l hl
  have hl : l.length ≤ 1000000 := hl
  have hz := idxZ_any l guN
  simp -dsimp [Tryz.f69, E69]
  repeat' (first | omega | (simp -dsimp [E69, ri, cellp, ints, hl, gussE_dec, hz]) | (refine Also.intro ?_ fun _ => ?_) | (refine Hold.intro fun _ => ?_) | (refine And.intro ?_ ?_))
theorem ok69 : FnOK Tryz.prog 69 (.pure gusanS) := pure_fn (E := E69) rfl (.cons ok96 .nil) (ok := []) (fn := Tryz.f69) (by kernel_rfl) (by kernel_rfl) (by kernel_rfl) (by kernel_rfl) rfl (fun _ _ => by simp) b69
theorem gue_of (l : List Gu) (room : Int) : gueE l room = if room < l.length then 2 else if (l.any guN) = true then 103 else 0 := by
  have e : l.all Gu.ok = !(l.any guN) := by
    rw [List.not_any_eq_all_not]; congr 1; funext g; exact gu_ok g
  unfold gueE
  rw [e]
  cases l.any guN <;> rfl
@[simp] def grE (d : List Gu × Int) : List V := [.sl 4 (d.1.map Gu.row), .int .i64 d.2]
theorem grE_inj (a b : List Gu × Int) (h : grE a = grE b) : a = b := by
  obtain ⟨a1, a2⟩ := a; obtain ⟨b1, b2⟩ := b
  simp only [grE, List.cons.injEq, V.sl.injEq, V.int.injEq, true_and, and_true] at h
  rw [mapRow_inj Gu.row_inj h.1, h.2]
theorem grE_dec (l : List Gu) (n : Int) : decC grE [.sl 4 (l.map Gu.row), .int .i64 n] = (l, n) := decC_eq grE_inj (l, n)
noncomputable abbrev grS : PSpec := mkP grE (fun d => d.1.length ≤ 1000000) fun d => .int .i64 (gueE d.1 d.2)
noncomputable abbrev E40 : Env := { P := Tryz.prog, fn := tbl [(69, .pure gusanS)], own := [], key := 4000, nt := 11 }
theorem b40 : PureBody E40 [] Tryz.f40 grS := by
  refine pb ?_
  rintro ⟨l, n⟩ hl
  have hl : l.length ≤ 1000000 := hl
  have hg := gue_of l n
  generalize h1 : l.any guN = b at hg
  by_cases hn : n < l.length
  · rw [if_pos hn] at hg
    simp -dsimp [Tryz.f40, E40]
    repeat' (first | omega | (simp -dsimp [E40, ri, cellp, ints, hl, hn, hg]) | (refine Also.intro ?_ fun _ => ?_) | (refine Hold.intro fun _ => ?_) | (refine And.intro ?_ ?_))
  · rw [if_neg hn] at hg
    have hn' : (n < (l.length : Int)) = False := eq_false hn
    cases b
    · simp -dsimp [Tryz.f40, E40]
      repeat' (first | omega | (simp -dsimp [E40, ri, cellp, ints, hl, hn', hg, gussE_dec, h1]) | (refine Also.intro ?_ fun _ => ?_) | (refine Hold.intro fun _ => ?_) | (refine And.intro ?_ ?_))
    · simp -dsimp [Tryz.f40, E40]
      repeat' (first | omega | (simp -dsimp [E40, ri, cellp, ints, hl, hn', hg, gussE_dec, h1]) | (refine Also.intro ?_ fun _ => ?_) | (refine Hold.intro fun _ => ?_) | (refine And.intro ?_ ?_))
theorem ok40 : FnOK Tryz.prog 40 (.pure grS) := pure_fn (E := E40) rfl (.cons ok69 .nil) (ok := []) (fn := Tryz.f40) (by kernel_rfl) (by kernel_rfl) (by kernel_rfl) (by kernel_rfl) rfl (fun _ _ => by simp) b40

/-! spans -/
noncomputable abbrev boxS : PSpec := mkP slE (fun d => d.length ≤ 1000000) fun d => .int .i64 (if withinB d.length 1 3 = true ∧ d.any spN = false then 0 else 10)
/-! a cabin, guests and fuel -/
@[simp] def lodE3 (d : Ca × List Gu × Sp) : List V := [.agg d.1.row, .sl 4 (d.2.1.map Gu.row), .agg d.2.2.row]
theorem lodE3_inj (a b : Ca × List Gu × Sp) (h : lodE3 a = lodE3 b) : a = b := by
  obtain ⟨a1, a2, a3⟩ := a; obtain ⟨b1, b2, b3⟩ := b
  simp only [lodE3, List.cons.injEq, V.sl.injEq, V.agg.injEq, true_and, and_true] at h
  rw [Ca.row_inj _ _ h.1, mapRow_inj Gu.row_inj h.2.1, Sp.row_inj _ _ h.2.2]
theorem lodE3_dec (c : Ca) (l : List Gu) (f : Sp) : decC lodE3 [.agg [.int .i64 c.emp, .int .i64 c.arm, .sl 2 (c.st.map Se.row), .int .i64 c.farm, .int .i64 c.low, .int .i64 c.high], .sl 4 (l.map Gu.row), .agg [.int .i64 f.lo, .int .i64 f.hi]] = (c, l, f) := decC_eq lodE3_inj (c, l, f)
structure LoP (d : Ca × List Gu × Sp) : Prop where
  c : d.1.st.length ≤ 900000
  l : d.2.1.length ≤ 1000000
noncomputable abbrev lodS : PSpec := mkP lodE3 LoP fun d => .int .i64 (lodE d.1 d.2.1 d.2.2)
theorem spn_of (f : Sp) : spnE f = if spN f = true ∨ f.lo < 0 ∨ 100000 < f.hi then 10 else 0 := by
  unfold spnE spN withinB
  by_cases h : -1000000 ≤ f.lo ∧ f.lo ≤ f.hi ∧ f.hi ≤ 1000000 ∧ 0 ≤ f.lo ∧ f.hi ≤ 100000
  · rw [if_pos h, if_neg]; simp; omega
  · rw [if_neg h, if_pos]; simp; omega
noncomputable abbrev E24 : Env := { P := Tryz.prog, fn := tbl [(39, .pure cabS), (40, .pure grS), (41, .pure boxS)], own := [], key := 2400, nt := 36 }
theorem b24 : PureBody E24 [] Tryz.f24 lodS := by
  refine pb ?_
  rintro ⟨c, l, f⟩ ⟨hc, hl⟩
  simp only at hc hl
  have hK : lodE c l f = if c.ok = true then (if gueE l c.st.length = 0 then spnE f else gueE l c.st.length) else 102 := rfl
  have hS := spn_of f
  by_cases h1 : c.ok = true
  · rw [if_pos h1] at hK
    by_cases h2 : gueE l c.st.length = 0
    · rw [if_pos h2] at hK
      rw [hS] at hK
      generalize h3 : spN f = b at hK
      cases b
      · simp -dsimp [Tryz.f24, E24, Sp.row, Ca.row]
        repeat' (first | omega | (simp -dsimp [E24, ri, cellp, ints, Sp.row, Ca.row, caE_dec, grE_dec, slE_dec1, hc, hl, h1, h2, h3]) | (refine Also.intro ?_ fun _ => ?_) | (refine Hold.intro fun _ => ?_) | (refine And.intro ?_ ?_))
        · rename_i h
          rcases h with (h | h) | h
          · exact absurd h (by decide)
          · rw [hK, if_pos (.inr (.inl h))]
          · rw [hK, if_pos (.inr (.inr h))]
        · rename_i h
          rw [hK, if_neg (by rintro (h' | h' | h') <;> first | (cases h'; done) | omega)]
      · simp -dsimp [Tryz.f24, E24, Sp.row, Ca.row]
        repeat' (first | omega | (simp -dsimp [E24, ri, cellp, ints, Sp.row, Ca.row, caE_dec, grE_dec, slE_dec1, hc, hl, h1, h2, h3, hK]) | (refine Also.intro ?_ fun _ => ?_) | (refine Hold.intro fun _ => ?_) | (refine And.intro ?_ ?_))
    · rw [if_neg h2] at hK
      simp -dsimp [Tryz.f24, E24, Sp.row, Ca.row]
      repeat' (first | omega | (simp -dsimp [E24, ri, cellp, ints, Sp.row, Ca.row, caE_dec, grE_dec, hc, hl, h1, h2, hK]) | (refine Also.intro ?_ fun _ => ?_) | (refine Hold.intro fun _ => ?_) | (refine And.intro ?_ ?_))
  · rw [if_neg h1] at hK
    simp -dsimp [Tryz.f24, E24, Sp.row, Ca.row]
    repeat' (first | omega | (simp -dsimp [E24, ri, cellp, ints, Sp.row, Ca.row, caE_dec, hc, hl, h1, hK]) | (refine Also.intro ?_ fun _ => ?_) | (refine Hold.intro fun _ => ?_) | (refine And.intro ?_ ?_))
theorem ok24 : FnOK Tryz.prog 24 (.pure lodS) := pure_fn (E := E24) rfl (.cons ok39 (.cons ok40 (.cons ok41 .nil))) (ok := []) (fn := Tryz.f24) (by kernel_rfl) (by kernel_rfl) (by kernel_rfl) (by kernel_rfl) rfl (fun _ _ => by simp) b24
end Go.Sx
end
section
/- Crew: the reference's guests. No conditions. -/
set_option linter.unusedSimpArgs false
set_option linter.unusedSectionVars false
set_option maxRecDepth 100000
set_option maxHeartbeats 2000000
namespace Go.Sx
open Go.Proofs
attribute [local irreducible] HLe

noncomputable abbrev E89 : Env := { P := Tryz.prog, fn := tbl [], own := [], key := 8900, nt := 15 }
theorem b89 : PureBody E89 [] Tryz.f89 withinS := by
  refine pb ?_
  rintro ⟨n, a, b⟩ _
  simp -dsimp [Tryz.f89, E89, withinB]
  repeat' (first | omega | (simp -dsimp [E89, ri, cellp, ints, *]) | (refine Also.intro ?_ fun _ => ?_) | (refine Hold.intro fun _ => ?_) | (refine And.intro ?_ ?_))
theorem ok89 : FnOK Tryz.prog 89 (.pure withinS) := pure_fn (E := E89) rfl LOK.nil (ok := []) (fn := Tryz.f89) (by kernel_rfl) (by kernel_rfl) (by kernel_rfl) (by kernel_rfl) rfl (fun _ _ => by simp) b89
theorem gue_none {l : List Gu} (h : ∀ j (h : j < l.length), guN l[j] = false) : l.any guN = false := by
  rw [List.any_eq_false]
  intro g hg
  obtain ⟨j, hj, rfl⟩ := List.getElem_of_mem hg
  simp [h j hj]
theorem gue_bad {l : List Gu} {k : Nat} (hk : k < l.length) (h : guN l[k] = true) : l.any guN = true := by
  rw [List.any_eq_true]; exact ⟨_, List.getElem_mem hk, h⟩
noncomputable abbrev E62 : Env := { P := Tryz.prog, fn := tbl [(89, .pure withinS)], own := [], key := 6200, nt := 32 }
theorem b62 : PureBody E62 [] Tryz.f62 grS := by
  refine pb ?_
  rintro ⟨l, n⟩ hl
  have hl : l.length ≤ 1000000 := hl
  have hg := gue_of l n
  by_cases hn : n < l.length
  · rw [if_pos hn] at hg
    simp -dsimp [Tryz.f62, E62]
    repeat' (first | omega | (simp -dsimp [E62, ri, cellp, ints, hl, hn, hg]) | (refine Also.intro ?_ fun _ => ?_) | (refine Hold.intro fun _ => ?_) | (refine And.intro ?_ ?_))
  rw [if_neg hn] at hg
  have hn' : (n < (l.length : Int)) = False := eq_false hn
  simp -dsimp [Tryz.f62, E62]
  repeat' (first | omega | (simp -dsimp [E62, ri, cellp, ints, hl, hn']) | (refine Also.intro ?_ fun _ => ?_) | (refine Hold.intro fun _ => ?_) | (refine And.intro ?_ ?_))
  refine awp_loop [10, 11, 12, 13, 16, 17, 18, 19, 20, 21, 22, 23, 24, 25, 26, 27, 28, 29, 30, 31, 4, 14, 15, 5] (fun k : { k : Nat // k ≤ l.length ∧ ∀ j (h : j < l.length), j < k → guN l[j] = false } => [(5, (true, .int .i64 k.1))]) (fun _ => noH) (fun k => l.length - k.1) ⟨0, by omega, fun _ _ h => by omega⟩ ?_ (HLe.refl _) ?_
  · simp [okAll, okv]
  rintro ⟨k, hk, hall⟩
  dsimp only
  by_cases hk1 : k < l.length
  · have hki : (k : Int) < l.length := by omega
    have wk : IntKind.wrap .i64 ((k : Int) + 1) = (k + 1 : Nat) := wrap_id (by omega) (by omega)
    obtain ⟨g, hu⟩ : ∃ g, l[k]? = some g := ⟨_, List.getElem?_eq_getElem hk1⟩
    have hu' : l[k] = g := (List.getElem?_eq_some_iff.1 hu).2
    have hD : guN g = (!withinB g.w 1 500 || !withinB g.dive 0 2000) := rfl
    cases h1 : withinB g.w 1 500 <;> rw [h1] at hD
    · have hz := gue_bad hk1 (by rw [hu', hD]; rfl)
      rw [hz, if_pos rfl] at hg
      simp -dsimp [hki]
      repeat' (first | omega | (simp -dsimp [E62, ri, cellp, ints, hki, hk1, hu, hu', h1, hg, Gu.row]) | (refine Also.intro ?_ fun _ => ?_) | (refine Hold.intro fun _ => ?_) | (refine And.intro ?_ ?_))
    · cases h2 : withinB g.dive 0 2000 <;> rw [h2] at hD
      · have hz := gue_bad hk1 (by rw [hu', hD]; rfl)
        rw [hz, if_pos rfl] at hg
        simp -dsimp [hki]
        repeat' (first | omega | (simp -dsimp [E62, ri, cellp, ints, hki, hk1, hu, hu', h1, h2, hg, Gu.row]) | (refine Also.intro ?_ fun _ => ?_) | (refine Hold.intro fun _ => ?_) | (refine And.intro ?_ ?_))
      · simp -dsimp [hki]
        repeat' (first | omega | (simp -dsimp [E62, ri, cellp, ints, hki, hk1, hu, hu', h1, h2, wk, Gu.row]) | (refine Also.intro ?_ fun _ => ?_) | (refine Hold.intro fun _ => ?_) | (refine And.intro ?_ ?_))
        refine ⟨k + 1, tle_chain rfl ?_, HLe.refl _, ⟨by omega, fun j h hj => ?_⟩, by omega⟩
        · simp [okAll, okv]
        · by_cases hjk : j = k
          · subst hjk; rw [hu', hD]; rfl
          · exact hall j h (by omega)
  · have hkn : ¬ (k : Int) < l.length := by omega
    rw [gue_none fun j h => hall j h (by omega), if_neg (by decide)] at hg
    simp -dsimp [hkn]
    repeat' (first | omega | (simp -dsimp [E62, ri, cellp, ints, hkn, hg]) | (refine Also.intro ?_ fun _ => ?_) | (refine Hold.intro fun _ => ?_) | (refine And.intro ?_ ?_))
theorem ok62 : FnOK Tryz.prog 62 (.pure grS) := pure_fn (E := E62) rfl (.cons ok89 .nil) (ok := []) (fn := Tryz.f62) (by kernel_rfl) (by kernel_rfl) (by kernel_rfl) (by kernel_rfl) rfl (fun _ _ => by simp) b62

end Go.Sx
end
