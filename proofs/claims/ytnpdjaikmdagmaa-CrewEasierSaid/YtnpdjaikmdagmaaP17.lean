/- A part of a proof; no conditions. -/
import Derived.Test.YtnpdjaikmdagmaaP14
import Derived.Test.YtnpdjaikmdagmaaP16
set_option linter.unusedSimpArgs false
set_option linter.unusedVariables false
set_option linter.unusedSectionVars false
section
/- Crew: cabins, guests, loads. No conditions. -/
set_option linter.unusedSimpArgs false
set_option linter.unusedSectionVars false
set_option maxRecDepth 100000
set_option maxHeartbeats 2000000
namespace Go.Sx
open Go.Proofs
attribute [local irreducible] HLe

theorem ri_inj' (a b : Int) (h : ri a = ri b) : a = b := by simpa [ri] using h
def armN (n : Int) : Bool := !withinB n (-1000) 1000
abbrev armS : PSpec := int1S armN
noncomputable abbrev E94 : Env := { P := Try.prog, fn := tbl [(42, .pure withinS)], own := [], key := 9400, nt := 6 }
theorem b94 : PureBody E94 [] Try.f94 armS := by
  refine pb ?_
  rintro n _
  simp -dsimp [Try.f94, E94, armN]
  repeat' (first | omega | (simp -dsimp [E94, ri, cellp, ints, armN]) | (refine Also.intro ?_ fun _ => ?_) | (refine Hold.intro fun _ => ?_) | (refine And.intro ?_ ?_))
theorem ok94 : FnOK Try.prog 94 (.pure armS) := pure_fn (E := E94) rfl (.cons ok42 .nil) (ok := []) (fn := Try.f94) (by kernel_rfl) (by kernel_rfl) (by kernel_rfl) (by kernel_rfl) rfl (fun _ _ => by simp) b94
@[simp] def amsE (d : List Int) : List V := [.sl 1 (d.map ri), .fn 94 []]
theorem amsE_inj (a b : List Int) (h : amsE a = amsE b) : a = b := by
  simp only [amsE, List.cons.injEq, V.sl.injEq, true_and, and_true] at h
  exact mapRow_inj ri_inj' h
theorem amsE_dec (l : List Int) : decC amsE [.sl 1 (l.map ri), .fn 94 []] = l := decC_eq amsE_inj l
noncomputable abbrev amixS : PSpec := mkP amsE (fun d => d.length ≤ 1000000) fun d => .int .i64 (idxZ d armN)
noncomputable abbrev amanS : PSpec := mkP amsE (fun d => d.length ≤ 1000000) fun d => .bool (d.any armN)
noncomputable abbrev E103 : Env := { P := Try.prog, fn := tbl [(94, .pure armS)], own := [], key := 10300, nt := 19 }
theorem b103 : PureBody E103 [] Try.f103 amixS := by
  refine pb ?_
  rintro l hl
  have hl : l.length ≤ 1000000 := hl
  simp -dsimp [Try.f103, E103]
  refine awp_loop [9, 10, 5, 11, 12, 13, 14, 15, 16, 17, 4, 18, 8] (fun k : { k : Nat // k ≤ l.length ∧ ∀ j (h : j < l.length), j < k → armN l[j] = false } => [(8, (true, .int .i64 k.1))]) (fun _ => noH) (fun k => l.length - k.1) ⟨0, by omega, fun _ _ h => by omega⟩ ?_ (HLe.refl _) ?_
  · simp [okAll, okv]
  rintro ⟨k, hk, hall⟩
  by_cases hk1 : k < l.length
  · have hki : (k : Int) < l.length := by omega
    have wk : IntKind.wrap .i64 ((k : Int) + 1) = (k + 1 : Nat) := wrap_id (by omega) (by omega)
    cases hw : armN l[k]
    · simp -dsimp [hki]
      repeat' (first | omega | (simp -dsimp [E103, ri, cellp, ints, hki, hk1, hl, hw, wk, ri]) | (refine Also.intro ?_ fun _ => ?_) | (refine Hold.intro fun _ => ?_) | (refine And.intro ?_ ?_))
      refine ⟨k + 1, tle_chain rfl ?_, HLe.refl _, ⟨by omega, fun j h hj => ?_⟩, by omega⟩
      · simp [okAll, okv]
      · by_cases hjk : j = k
        · subst hjk; exact hw
        · exact hall j h (by omega)
    · have hz := idxZ_at l armN hk1 hw hall
      simp -dsimp [hki]
      repeat' (first | omega | (simp -dsimp [E103, ri, cellp, ints, hki, hk1, hl, hw, wk, hz, ri]) | (refine Also.intro ?_ fun _ => ?_) | (refine Hold.intro fun _ => ?_) | (refine And.intro ?_ ?_))
  · have hkn : ¬ (k : Int) < l.length := by omega
    have hz := idxZ_none l armN (fun j h => hall j h (by omega))
    simp -dsimp [hkn]
    repeat' (first | omega | (simp -dsimp [E103, ri, cellp, ints, hkn, hz]) | (refine Also.intro ?_ fun _ => ?_) | (refine Hold.intro fun _ => ?_) | (refine And.intro ?_ ?_))
theorem ok103 : FnOK Try.prog 103 (.pure amixS) := pure_fn (E := E103) rfl (.cons ok94 .nil) (ok := []) (fn := Try.f103) (by kernel_rfl) (by kernel_rfl) (by kernel_rfl) (by kernel_rfl) rfl (fun _ _ => by simp) b103
noncomputable abbrev E93 : Env := { P := Try.prog, fn := tbl [(103, .pure amixS)], own := [], key := 9300, nt := 9 }
theorem b93 : PureBody E93 [] Try.f93 amanS := by
  refine pb ?_
  rintro l hl
  have hl : l.length ≤ 1000000 := hl
  have hz := idxZ_any l armN
  simp -dsimp [Try.f93, E93]
  repeat' (first | omega | (simp -dsimp [E93, ri, cellp, ints, hl, amsE_dec, hz]) | (refine Also.intro ?_ fun _ => ?_) | (refine Hold.intro fun _ => ?_) | (refine And.intro ?_ ?_))
theorem ok93 : FnOK Try.prog 93 (.pure amanS) := pure_fn (E := E93) rfl (.cons ok103 .nil) (ok := []) (fn := Try.f93) (by kernel_rfl) (by kernel_rfl) (by kernel_rfl) (by kernel_rfl) rfl (fun _ _ => by simp) b93
@[simp] def caE (c : Ca) : List V := [.agg c.row]
theorem caE_inj (a b : Ca) (h : caE a = caE b) : a = b := Ca.row_inj _ _ (by simpa using h)
theorem caE_dec (c : Ca) : decC caE [.agg [.int .i64 c.emp, .int .i64 c.arm, .sl 2 (c.st.map Se.row), .int .i64 c.farm, .int .i64 c.low, .int .i64 c.high]] = c := decC_eq caE_inj c
def armsTo (c : Ca) (k : Nat) : List Int := [c.arm, c.farm, c.low, c.high] ++ (c.st.take k).map Se.arm
theorem armsTo_succ (c : Ca) {k : Nat} {s : Se} (h : c.st[k]? = some s) : armsTo c (k + 1) = armsTo c k ++ [s.arm] := by
  have hk : k < c.st.length := (List.getElem?_eq_some_iff.1 h).1
  unfold armsTo
  rw [take_snoc c.st hk, List.map_append, List.append_assoc, show c.st.getD k default = s by simp [List.getD, h]]; rfl
theorem armsTo_len (c : Ca) {k : Nat} (h : k ≤ c.st.length) : (armsTo c k).length = k + 4 := by simp [armsTo]; omega
theorem ca_ok (c : Ca) : c.ok = (withinB c.emp 1 100000 && decide (c.st.length ≤ 8) && decide (c.low ≤ c.high) && !((armsTo c c.st.length).any armN)) := by
  have e0 : armN = fun n => !armB n := rfl
  have e : (armsTo c c.st.length).any armN = !(armB c.arm && armB c.farm && armB c.low && armB c.high && c.st.all fun s => armB s.arm) := by
    unfold armsTo
    rw [List.take_length, e0, ← List.not_all_eq_any_not]
    simp [List.all_append, List.all_map, Function.comp_def, Bool.and_assoc]
  rw [e, Bool.not_not, Ca.ok, withinB]
  simp only [Bool.and_assoc]
noncomputable abbrev cabS : PSpec := mkP caE (fun c => c.st.length ≤ 900000) fun c => .int .i64 (if c.ok = true then 0 else 102)
noncomputable abbrev E69 : Env := { P := Try.prog, fn := tbl [(42, .pure withinS), (93, .pure amanS)], own := [14], key := 6900, nt := 49 }
theorem b69 : PureBody E69 [] Try.f69 cabS := by
  refine pb ?_
  rintro c hl
  have hl : c.st.length ≤ 900000 := hl
  have hok := ca_ok c
  simp -dsimp [Try.f69, E69, Ca.row]
  repeat' (first | omega | (simp -dsimp [E69, ri, cellp, ints, Ca.row]) | (refine Also.intro ?_ fun _ => ?_) | (refine Hold.intro fun _ => ?_) | (refine And.intro ?_ ?_))
  refine awp_loop [19, 20, 21, 5, 22, 23, 24, 25, 26, 3, 27, 18] (fun k : { k : Nat // k ≤ c.st.length } => [(18, (true, .int .i64 k.1)), (3, (true, .bsl 6914 0 (k.1 + 4)))]) (fun k => hps [(6905, { base := k.1, blks := [] }), (6914, { base := 0, blks := [{ z := 1, els := (armsTo c k.1).map ri, ty := 3 }] }), (6901, { base := 0, blks := [{ z := 6, els := [c.row], ty := 49 }] })] noH) (fun k => c.st.length - k.1) ⟨0, by omega⟩ ?_ ?_ ?_
  · simp [okAll, okv]
  · exact (by (try simp -dsimp only [hpush_noH, hpush_hps, hps_over]); refine hle_hps ?_; simp -dsimp [allK, armsTo, ri, Ca.row]; repeat' (first | (refine And.intro ?_ ?_) | (refine sLe.same ?_ ?_ <;> (simp; done)) | (refine sLe.clear ?_ ?_ <;> (first | (simp; done) | (simp; omega))) | (refine sLe.drop 1 ?_ ?_ ?_ <;> (simp; done))))
  rintro ⟨k, hk⟩
  dsimp only
  have hal := armsTo_len c hk
  by_cases hk1 : k < c.st.length
  · have hki : (k : Int) < c.st.length := by omega
    have wk : IntKind.wrap .i64 ((k : Int) + 1) = (k + 1 : Nat) := wrap_id (by omega) (by omega)
    obtain ⟨s, hs⟩ : ∃ s, c.st[k]? = some s := ⟨_, List.getElem?_eq_getElem hk1⟩
    have hs' : c.st[k] = s := (List.getElem?_eq_some_iff.1 hs).2
    have hsu := armsTo_succ c hs
    simp -dsimp [hki]
    repeat' (first | omega | (simp -dsimp [E69, ri, cellp, ints, hki, hk1, wk, hs, hs', hal, Se.row, Ca.row]) | (refine Also.intro ?_ fun _ => ?_) | (refine Hold.intro fun _ => ?_) | (refine And.intro ?_ ?_))
    refine ⟨k + 1, tle_chain rfl ?_, ?_, by omega, by omega⟩
    · simp [okAll, okv]
    · exact (by (try simp -dsimp only [hpush_noH, hpush_hps, hps_over]); refine hle_hps ?_; simp -dsimp [allK, hsu, ri, Ca.row]; repeat' (first | (refine And.intro ?_ ?_) | (refine sLe.same ?_ ?_ <;> (simp; done)) | (refine sLe.clear ?_ ?_ <;> (first | (simp; done) | (simp; omega))) | (refine sLe.drop 1 ?_ ?_ ?_ <;> (simp; done))))
  · have hkn : ¬ (k : Int) < c.st.length := by omega
    have hke : k = c.st.length := by omega
    subst hke
    generalize hA : armsTo c c.st.length = A at *
    generalize c1 : withinB c.emp 1 100000 = b1 at hok
    generalize c4 : A.any armN = b4 at hok
    simp -dsimp [hkn]
    repeat' (first | omega | (simp -dsimp [E69, ri, cellp, ints, hkn, hal, amsE_dec, c1, c4, Ca.row]) | (refine Also.intro ?_ fun _ => ?_) | (refine Hold.intro fun _ => ?_) | (refine And.intro ?_ ?_))
    · intro h1 h2 h3
      exact ⟨⟨⟨h1, h2⟩, h3⟩, by omega⟩
    · rename_i h
      rw [hok]
      rcases h with ((h | h) | h) | h
      · simp [h]
      · rw [decide_eq_false (by omega : ¬ c.st.length ≤ 8)]; simp
      · rw [decide_eq_false (by omega : ¬ c.low ≤ c.high)]; simp
      · simp [h]
    · rename_i h
      rw [hok, h.1.1.1, h.2, decide_eq_true h.1.2, decide_eq_true (by omega : c.st.length ≤ 8)]; rfl
theorem ok69 : FnOK Try.prog 69 (.pure cabS) := pure_fn (E := E69) rfl (.cons ok42 (.cons ok93 .nil)) (ok := []) (fn := Try.f69) (by kernel_rfl) (by kernel_rfl) (by kernel_rfl) (by kernel_rfl) rfl (fun _ _ => by simp) b69

/-! guests -/
def guN (g : Gu) : Bool := !(withinB g.w 1 500) || !(withinB g.dive 0 2000)
theorem gu_ok (g : Gu) : g.ok = !guN g := by simp [guN, Gu.ok, withinB]
@[simp] def guE (g : Gu) : List V := [.agg g.row]
theorem guE_inj (a b : Gu) (h : guE a = guE b) : a = b := Gu.row_inj _ _ (by simpa using h)
theorem guE_dec (g : Gu) : decC guE [.agg [.int .i64 g.w, .bool g.suit, .int .i64 g.dive, .bool g.able]] = g := decC_eq guE_inj g
noncomputable abbrev guS : PSpec := mkP guE (fun _ => True) fun g => .bool (guN g)
noncomputable abbrev E68 : Env := { P := Try.prog, fn := tbl [(42, .pure withinS), (38, .pure timeS)], own := [], key := 6800, nt := 13 }
theorem b68 : PureBody E68 [] Try.f68 guS := by
  refine pb ?_
  rintro g _
  simp -dsimp [Try.f68, E68, Gu.row, guN]
  repeat' (first | omega | (simp -dsimp [E68, ri, cellp, ints, Gu.row, guN]) | (refine Also.intro ?_ fun _ => ?_) | (refine Hold.intro fun _ => ?_) | (refine And.intro ?_ ?_))
theorem ok68 : FnOK Try.prog 68 (.pure guS) := pure_fn (E := E68) rfl (.cons ok42 (.cons ok38 .nil)) (ok := []) (fn := Try.f68) (by kernel_rfl) (by kernel_rfl) (by kernel_rfl) (by kernel_rfl) rfl (fun _ _ => by simp) b68
@[simp] def gussE (d : List Gu) : List V := [.sl 4 (d.map Gu.row), .fn 68 []]
theorem gussE_inj (a b : List Gu) (h : gussE a = gussE b) : a = b := by
  simp only [gussE, List.cons.injEq, V.sl.injEq, true_and, and_true] at h
  exact mapRow_inj Gu.row_inj h
theorem gussE_dec (l : List Gu) : decC gussE [.sl 4 (l.map Gu.row), .fn 68 []] = l := decC_eq gussE_inj l
noncomputable abbrev gusixS : PSpec := mkP gussE (fun d => d.length ≤ 1000000) fun d => .int .i64 (idxZ d guN)
noncomputable abbrev gusanS : PSpec := mkP gussE (fun d => d.length ≤ 1000000) fun d => .bool (d.any guN)
noncomputable abbrev E92 : Env := { P := Try.prog, fn := tbl [(68, .pure guS)], own := [], key := 9200, nt := 19 }
theorem b92 : PureBody E92 [] Try.f92 gusixS := by
  refine pb ?_
  rintro l hl
  have hl : l.length ≤ 1000000 := hl
  simp -dsimp [Try.f92, E92]
  refine awp_loop [9, 10, 5, 11, 12, 13, 14, 15, 16, 17, 4, 18, 8] (fun k : { k : Nat // k ≤ l.length ∧ ∀ j (h : j < l.length), j < k → guN l[j] = false } => [(8, (true, .int .i64 k.1))]) (fun _ => noH) (fun k => l.length - k.1) ⟨0, by omega, fun _ _ h => by omega⟩ ?_ (HLe.refl _) ?_
  · simp [okAll, okv]
  rintro ⟨k, hk, hall⟩
  by_cases hk1 : k < l.length
  · have hki : (k : Int) < l.length := by omega
    have wk : IntKind.wrap .i64 ((k : Int) + 1) = (k + 1 : Nat) := wrap_id (by omega) (by omega)
    cases hw : guN l[k]
    · simp -dsimp [hki]
      repeat' (first | omega | (simp -dsimp [E92, ri, cellp, ints, hki, hk1, hl, hw, wk, Gu.row, guE_dec]) | (refine Also.intro ?_ fun _ => ?_) | (refine Hold.intro fun _ => ?_) | (refine And.intro ?_ ?_))
      refine ⟨k + 1, tle_chain rfl ?_, HLe.refl _, ⟨by omega, fun j h hj => ?_⟩, by omega⟩
      · simp [okAll, okv]
      · by_cases hjk : j = k
        · subst hjk; exact hw
        · exact hall j h (by omega)
    · have hz := idxZ_at l guN hk1 hw hall
      simp -dsimp [hki]
      repeat' (first | omega | (simp -dsimp [E92, ri, cellp, ints, hki, hk1, hl, hw, wk, hz, Gu.row, guE_dec]) | (refine Also.intro ?_ fun _ => ?_) | (refine Hold.intro fun _ => ?_) | (refine And.intro ?_ ?_))
  · have hkn : ¬ (k : Int) < l.length := by omega
    have hz := idxZ_none l guN (fun j h => hall j h (by omega))
    simp -dsimp [hkn]
    repeat' (first | omega | (simp -dsimp [E92, ri, cellp, ints, hkn, hz]) | (refine Also.intro ?_ fun _ => ?_) | (refine Hold.intro fun _ => ?_) | (refine And.intro ?_ ?_))
theorem ok92 : FnOK Try.prog 92 (.pure gusixS) := pure_fn (E := E92) rfl (.cons ok68 .nil) (ok := []) (fn := Try.f92) (by kernel_rfl) (by kernel_rfl) (by kernel_rfl) (by kernel_rfl) rfl (fun _ _ => by simp) b92
noncomputable abbrev E67 : Env := { P := Try.prog, fn := tbl [(92, .pure gusixS)], own := [], key := 6700, nt := 9 }
theorem b67 : PureBody E67 [] Try.f67 gusanS := by
  refine pb ?_
  rintro l hl
  have hl : l.length ≤ 1000000 := hl
  have hz := idxZ_any l guN
  simp -dsimp [Try.f67, E67]
  repeat' (first | omega | (simp -dsimp [E67, ri, cellp, ints, hl, gussE_dec, hz]) | (refine Also.intro ?_ fun _ => ?_) | (refine Hold.intro fun _ => ?_) | (refine And.intro ?_ ?_))
theorem ok67 : FnOK Try.prog 67 (.pure gusanS) := pure_fn (E := E67) rfl (.cons ok92 .nil) (ok := []) (fn := Try.f67) (by kernel_rfl) (by kernel_rfl) (by kernel_rfl) (by kernel_rfl) rfl (fun _ _ => by simp) b67
theorem gue_of (l : List Gu) (room : Int) : gueE l room = if room < l.length then 2 else if (l.any guN) = true then 103 else 0 := by
  have e : l.all Gu.ok = !(l.any guN) := by
    rw [List.not_any_eq_all_not]; congr 1; funext g; exact gu_ok g
  unfold gueE
  rw [e]
  cases l.any guN <;> rfl
@[simp] def grE (d : List Gu × Int) : List V := [.sl 4 (d.1.map Gu.row), .int .i64 d.2]
theorem grE_inj (a b : List Gu × Int) (h : grE a = grE b) : a = b := by
  obtain ⟨a1, a2⟩ := a; obtain ⟨b1, b2⟩ := b
  simp only [grE, List.cons.injEq, V.sl.injEq, V.int.injEq, true_and, and_true] at h
  rw [mapRow_inj Gu.row_inj h.1, h.2]
theorem grE_dec (l : List Gu) (n : Int) : decC grE [.sl 4 (l.map Gu.row), .int .i64 n] = (l, n) := decC_eq grE_inj (l, n)
noncomputable abbrev grS : PSpec := mkP grE (fun d => d.1.length ≤ 1000000) fun d => .int .i64 (gueE d.1 d.2)
noncomputable abbrev E37 : Env := { P := Try.prog, fn := tbl [(67, .pure gusanS)], own := [], key := 3700, nt := 11 }
theorem b37 : PureBody E37 [] Try.f37 grS := by
  refine pb ?_
  rintro ⟨l, n⟩ hl
  have hl : l.length ≤ 1000000 := hl
  have hg := gue_of l n
  generalize h1 : l.any guN = b at hg
  by_cases hn : n < l.length
  · rw [if_pos hn] at hg
    simp -dsimp [Try.f37, E37]
    repeat' (first | omega | (simp -dsimp [E37, ri, cellp, ints, hl, hn, hg]) | (refine Also.intro ?_ fun _ => ?_) | (refine Hold.intro fun _ => ?_) | (refine And.intro ?_ ?_))
  · rw [if_neg hn] at hg
    have hn' : (n < (l.length : Int)) = False := eq_false hn
    cases b
    · simp -dsimp [Try.f37, E37]
      repeat' (first | omega | (simp -dsimp [E37, ri, cellp, ints, hl, hn', hg, gussE_dec, h1]) | (refine Also.intro ?_ fun _ => ?_) | (refine Hold.intro fun _ => ?_) | (refine And.intro ?_ ?_))
    · simp -dsimp [Try.f37, E37]
      repeat' (first | omega | (simp -dsimp [E37, ri, cellp, ints, hl, hn', hg, gussE_dec, h1]) | (refine Also.intro ?_ fun _ => ?_) | (refine Hold.intro fun _ => ?_) | (refine And.intro ?_ ?_))
theorem ok37 : FnOK Try.prog 37 (.pure grS) := pure_fn (E := E37) rfl (.cons ok67 .nil) (ok := []) (fn := Try.f37) (by kernel_rfl) (by kernel_rfl) (by kernel_rfl) (by kernel_rfl) rfl (fun _ _ => by simp) b37

/-! spans -/
noncomputable abbrev E95 : Env := { P := Try.prog, fn := tbl [], own := [], key := 9500, nt := 15 }
theorem b95 : PureBody E95 [] Try.f95 withinS := by
  refine pb ?_
  rintro ⟨n, a, b⟩ _
  simp -dsimp [Try.f95, E95, withinB]
  repeat' (first | omega | (simp -dsimp [E95, ri, cellp, ints, *]) | (refine Also.intro ?_ fun _ => ?_) | (refine Hold.intro fun _ => ?_) | (refine And.intro ?_ ?_))
theorem ok95 : FnOK Try.prog 95 (.pure withinS) := pure_fn (E := E95) rfl LOK.nil (ok := []) (fn := Try.f95) (by kernel_rfl) (by kernel_rfl) (by kernel_rfl) (by kernel_rfl) rfl (fun _ _ => by simp) b95
def spN (f : Sp) : Bool := !(withinB f.lo (-1000000) f.hi && decide (f.hi ≤ 1000000))
@[simp] def spE (f : Sp) : List V := [.agg f.row]
theorem spE_inj (a b : Sp) (h : spE a = spE b) : a = b := Sp.row_inj _ _ (by simpa using h)
theorem spE_dec (f : Sp) : decC spE [.agg [.int .i64 f.lo, .int .i64 f.hi]] = f := decC_eq spE_inj f
noncomputable abbrev spvS : PSpec := mkP spE (fun _ => True) fun f => .bool (!spN f)
noncomputable abbrev spnS : PSpec := mkP spE (fun _ => True) fun f => .bool (spN f)
noncomputable abbrev E106 : Env := { P := Try.prog, fn := tbl [(95, .pure withinS)], own := [], key := 10600, nt := 13 }
theorem b106 : PureBody E106 [] Try.f106 spvS := by
  refine pb ?_
  rintro f _
  simp -dsimp [Try.f106, E106, Sp.row, spN]
  repeat' (first | omega | (simp -dsimp [E106, ri, cellp, ints, Sp.row, spN]) | (refine Also.intro ?_ fun _ => ?_) | (refine Hold.intro fun _ => ?_) | (refine And.intro ?_ ?_))
theorem ok106 : FnOK Try.prog 106 (.pure spvS) := pure_fn (E := E106) rfl (.cons ok95 .nil) (ok := []) (fn := Try.f106) (by kernel_rfl) (by kernel_rfl) (by kernel_rfl) (by kernel_rfl) rfl (fun _ _ => by simp) b106
noncomputable abbrev E105 : Env := { P := Try.prog, fn := tbl [(106, .pure spvS)], own := [], key := 10500, nt := 6 }
theorem b105 : PureBody E105 [] Try.f105 spnS := by
  refine pb ?_
  rintro f _
  simp -dsimp [Try.f105, E105, Sp.row]
  repeat' (first | omega | (simp -dsimp [E105, ri, cellp, ints, Sp.row, spE_dec]) | (refine Also.intro ?_ fun _ => ?_) | (refine Hold.intro fun _ => ?_) | (refine And.intro ?_ ?_))
theorem ok105 : FnOK Try.prog 105 (.pure spnS) := pure_fn (E := E105) rfl (.cons ok106 .nil) (ok := []) (fn := Try.f105) (by kernel_rfl) (by kernel_rfl) (by kernel_rfl) (by kernel_rfl) rfl (fun _ _ => by simp) b105
@[simp] def spssE (d : List Sp) : List V := [.sl 2 (d.map Sp.row), .fn 105 []]
theorem spssE_inj (a b : List Sp) (h : spssE a = spssE b) : a = b := by
  simp only [spssE, List.cons.injEq, V.sl.injEq, true_and, and_true] at h
  exact mapRow_inj Sp.row_inj h
theorem spssE_dec (l : List Sp) : decC spssE [.sl 2 (l.map Sp.row), .fn 105 []] = l := decC_eq spssE_inj l
noncomputable abbrev spsixS : PSpec := mkP spssE (fun d => d.length ≤ 1000000) fun d => .int .i64 (idxZ d spN)
noncomputable abbrev spsanS : PSpec := mkP spssE (fun d => d.length ≤ 1000000) fun d => .bool (d.any spN)
noncomputable abbrev E110 : Env := { P := Try.prog, fn := tbl [(105, .pure spnS)], own := [], key := 11000, nt := 19 }
theorem b110 : PureBody E110 [] Try.f110 spsixS := by
  refine pb ?_
  rintro l hl
  have hl : l.length ≤ 1000000 := hl
  simp -dsimp [Try.f110, E110]
  refine awp_loop [9, 10, 5, 11, 12, 13, 14, 15, 16, 17, 4, 18, 8] (fun k : { k : Nat // k ≤ l.length ∧ ∀ j (h : j < l.length), j < k → spN l[j] = false } => [(8, (true, .int .i64 k.1))]) (fun _ => noH) (fun k => l.length - k.1) ⟨0, by omega, fun _ _ h => by omega⟩ ?_ (HLe.refl _) ?_
  · simp [okAll, okv]
  rintro ⟨k, hk, hall⟩
  by_cases hk1 : k < l.length
  · have hki : (k : Int) < l.length := by omega
    have wk : IntKind.wrap .i64 ((k : Int) + 1) = (k + 1 : Nat) := wrap_id (by omega) (by omega)
    cases hw : spN l[k]
    · simp -dsimp [hki]
      repeat' (first | omega | (simp -dsimp [E110, ri, cellp, ints, hki, hk1, hl, hw, wk, Sp.row, spE_dec]) | (refine Also.intro ?_ fun _ => ?_) | (refine Hold.intro fun _ => ?_) | (refine And.intro ?_ ?_))
      refine ⟨k + 1, tle_chain rfl ?_, HLe.refl _, ⟨by omega, fun j h hj => ?_⟩, by omega⟩
      · simp [okAll, okv]
      · by_cases hjk : j = k
        · subst hjk; exact hw
        · exact hall j h (by omega)
    · have hz := idxZ_at l spN hk1 hw hall
      simp -dsimp [hki]
      repeat' (first | omega | (simp -dsimp [E110, ri, cellp, ints, hki, hk1, hl, hw, wk, hz, Sp.row, spE_dec]) | (refine Also.intro ?_ fun _ => ?_) | (refine Hold.intro fun _ => ?_) | (refine And.intro ?_ ?_))
  · have hkn : ¬ (k : Int) < l.length := by omega
    have hz := idxZ_none l spN (fun j h => hall j h (by omega))
    simp -dsimp [hkn]
    repeat' (first | omega | (simp -dsimp [E110, ri, cellp, ints, hkn, hz]) | (refine Also.intro ?_ fun _ => ?_) | (refine Hold.intro fun _ => ?_) | (refine And.intro ?_ ?_))
theorem ok110 : FnOK Try.prog 110 (.pure spsixS) := pure_fn (E := E110) rfl (.cons ok105 .nil) (ok := []) (fn := Try.f110) (by kernel_rfl) (by kernel_rfl) (by kernel_rfl) (by kernel_rfl) rfl (fun _ _ => by simp) b110
noncomputable abbrev E104 : Env := { P := Try.prog, fn := tbl [(110, .pure spsixS)], own := [], key := 10400, nt := 9 }
theorem b104 : PureBody E104 [] Try.f104 spsanS := by
  refine pb ?_
  rintro l hl
  have hl : l.length ≤ 1000000 := hl
  have hz := idxZ_any l spN
  simp -dsimp [Try.f104, E104]
  repeat' (first | omega | (simp -dsimp [E104, ri, cellp, ints, hl, spssE_dec, hz]) | (refine Also.intro ?_ fun _ => ?_) | (refine Hold.intro fun _ => ?_) | (refine And.intro ?_ ?_))
theorem ok104 : FnOK Try.prog 104 (.pure spsanS) := pure_fn (E := E104) rfl (.cons ok110 .nil) (ok := []) (fn := Try.f104) (by kernel_rfl) (by kernel_rfl) (by kernel_rfl) (by kernel_rfl) rfl (fun _ _ => by simp) b104
@[simp] def slE (d : List Sp) : List V := [.sl 2 (d.map Sp.row)]
theorem slE_inj (a b : List Sp) (h : slE a = slE b) : a = b := by
  simp only [slE, List.cons.injEq, V.sl.injEq, true_and, and_true] at h
  exact mapRow_inj Sp.row_inj h
theorem slE_dec (l : List Sp) : decC slE [.sl 2 (l.map Sp.row)] = l := decC_eq slE_inj l
theorem slE_dec1 (f : Sp) : decC slE [.sl 2 [[.int .i64 f.lo, .int .i64 f.hi]]] = [f] := decC_eq slE_inj [f]
noncomputable abbrev spdS : PSpec := mkP slE (fun d => d.length ≤ 1000000) fun d => .int .i64 (if d.any spN = true then 10 else 0)
noncomputable abbrev E96 : Env := { P := Try.prog, fn := tbl [(104, .pure spsanS)], own := [], key := 9600, nt := 5 }
theorem b96 : PureBody E96 [] Try.f96 spdS := by
  refine pb ?_
  rintro l hl
  have hl : l.length ≤ 1000000 := hl
  generalize h1 : l.any spN = b
  cases b
  · simp -dsimp [Try.f96, E96]
    repeat' (first | omega | (simp -dsimp [E96, ri, cellp, ints, hl, h1, spssE_dec]) | (refine Also.intro ?_ fun _ => ?_) | (refine Hold.intro fun _ => ?_) | (refine And.intro ?_ ?_))
  · simp -dsimp [Try.f96, E96]
    repeat' (first | omega | (simp -dsimp [E96, ri, cellp, ints, hl, h1, spssE_dec]) | (refine Also.intro ?_ fun _ => ?_) | (refine Hold.intro fun _ => ?_) | (refine And.intro ?_ ?_))
theorem ok96 : FnOK Try.prog 96 (.pure spdS) := pure_fn (E := E96) rfl (.cons ok104 .nil) (ok := []) (fn := Try.f96) (by kernel_rfl) (by kernel_rfl) (by kernel_rfl) (by kernel_rfl) rfl (fun _ _ => by simp) b96
noncomputable abbrev boxS : PSpec := mkP slE (fun d => d.length ≤ 1000000) fun d => .int .i64 (if withinB d.length 1 3 = true ∧ d.any spN = false then 0 else 10)
noncomputable abbrev E70 : Env := { P := Try.prog, fn := tbl [(95, .pure withinS), (96, .pure spdS)], own := [], key := 7000, nt := 9 }
theorem b70 : PureBody E70 [] Try.f70 boxS := by
  refine pb ?_
  rintro l hl
  have hl : l.length ≤ 1000000 := hl
  generalize h1 : l.any spN = b
  generalize h2 : withinB l.length 1 3 = c
  cases b <;> cases c
  all_goals
    simp -dsimp [Try.f70, E70]
    repeat' (first | omega | (simp -dsimp [E70, ri, cellp, ints, hl, h1, h2, slE_dec]) | (refine Also.intro ?_ fun _ => ?_) | (refine Hold.intro fun _ => ?_) | (refine And.intro ?_ ?_))
theorem ok70 : FnOK Try.prog 70 (.pure boxS) := pure_fn (E := E70) rfl (.cons ok95 (.cons ok96 .nil)) (ok := []) (fn := Try.f70) (by kernel_rfl) (by kernel_rfl) (by kernel_rfl) (by kernel_rfl) rfl (fun _ _ => by simp) b70

/-! a cabin, guests and fuel -/
@[simp] def lodE3 (d : Ca × List Gu × Sp) : List V := [.agg d.1.row, .sl 4 (d.2.1.map Gu.row), .agg d.2.2.row]
theorem lodE3_inj (a b : Ca × List Gu × Sp) (h : lodE3 a = lodE3 b) : a = b := by
  obtain ⟨a1, a2, a3⟩ := a; obtain ⟨b1, b2, b3⟩ := b
  simp only [lodE3, List.cons.injEq, V.sl.injEq, V.agg.injEq, true_and, and_true] at h
  rw [Ca.row_inj _ _ h.1, mapRow_inj Gu.row_inj h.2.1, Sp.row_inj _ _ h.2.2]
theorem lodE3_dec (c : Ca) (l : List Gu) (f : Sp) : decC lodE3 [.agg [.int .i64 c.emp, .int .i64 c.arm, .sl 2 (c.st.map Se.row), .int .i64 c.farm, .int .i64 c.low, .int .i64 c.high], .sl 4 (l.map Gu.row), .agg [.int .i64 f.lo, .int .i64 f.hi]] = (c, l, f) := decC_eq lodE3_inj (c, l, f)
structure LoP (d : Ca × List Gu × Sp) : Prop where
  c : d.1.st.length ≤ 900000
  l : d.2.1.length ≤ 1000000
noncomputable abbrev lodS : PSpec := mkP lodE3 LoP fun d => .int .i64 (lodE d.1 d.2.1 d.2.2)
theorem spn_of (f : Sp) : spnE f = if spN f = true ∨ f.lo < 0 ∨ 100000 < f.hi then 10 else 0 := by
  unfold spnE spN withinB
  by_cases h : -1000000 ≤ f.lo ∧ f.lo ≤ f.hi ∧ f.hi ≤ 1000000 ∧ 0 ≤ f.lo ∧ f.hi ≤ 100000
  · rw [if_pos h, if_neg]; simp; omega
  · rw [if_neg h, if_pos]; simp; omega
noncomputable abbrev E45 : Env := { P := Try.prog, fn := tbl [(69, .pure cabS), (37, .pure grS), (70, .pure boxS)], own := [], key := 4500, nt := 36 }
theorem b45 : PureBody E45 [] Try.f45 lodS := by
  refine pb ?_
  rintro ⟨c, l, f⟩ ⟨hc, hl⟩
  simp only at hc hl
  have hK : lodE c l f = if c.ok = true then (if gueE l c.st.length = 0 then spnE f else gueE l c.st.length) else 102 := rfl
  have hS := spn_of f
  by_cases h1 : c.ok = true
  · rw [if_pos h1] at hK
    by_cases h2 : gueE l c.st.length = 0
    · rw [if_pos h2] at hK
      rw [hS] at hK
      generalize h3 : spN f = b at hK
      cases b
      · simp -dsimp [Try.f45, E45, Sp.row, Ca.row]
        repeat' (first | omega | (simp -dsimp [E45, ri, cellp, ints, Sp.row, Ca.row, caE_dec, grE_dec, slE_dec1, hc, hl, h1, h2, h3]) | (refine Also.intro ?_ fun _ => ?_) | (refine Hold.intro fun _ => ?_) | (refine And.intro ?_ ?_))
        · rename_i h
          rcases h with (h | h) | h
          · exact absurd h (by decide)
          · rw [hK, if_pos (.inr (.inl h))]
          · rw [hK, if_pos (.inr (.inr h))]
        · rename_i h
          rw [hK, if_neg (by rintro (h' | h' | h') <;> first | (cases h'; done) | omega)]
      · simp -dsimp [Try.f45, E45, Sp.row, Ca.row]
        repeat' (first | omega | (simp -dsimp [E45, ri, cellp, ints, Sp.row, Ca.row, caE_dec, grE_dec, slE_dec1, hc, hl, h1, h2, h3, hK]) | (refine Also.intro ?_ fun _ => ?_) | (refine Hold.intro fun _ => ?_) | (refine And.intro ?_ ?_))
    · rw [if_neg h2] at hK
      simp -dsimp [Try.f45, E45, Sp.row, Ca.row]
      repeat' (first | omega | (simp -dsimp [E45, ri, cellp, ints, Sp.row, Ca.row, caE_dec, grE_dec, hc, hl, h1, h2, hK]) | (refine Also.intro ?_ fun _ => ?_) | (refine Hold.intro fun _ => ?_) | (refine And.intro ?_ ?_))
  · rw [if_neg h1] at hK
    simp -dsimp [Try.f45, E45, Sp.row, Ca.row]
    repeat' (first | omega | (simp -dsimp [E45, ri, cellp, ints, Sp.row, Ca.row, caE_dec, hc, hl, h1, hK]) | (refine Also.intro ?_ fun _ => ?_) | (refine Hold.intro fun _ => ?_) | (refine And.intro ?_ ?_))
theorem ok45 : FnOK Try.prog 45 (.pure lodS) := pure_fn (E := E45) rfl (.cons ok69 (.cons ok37 (.cons ok70 .nil))) (ok := []) (fn := Try.f45) (by kernel_rfl) (by kernel_rfl) (by kernel_rfl) (by kernel_rfl) rfl (fun _ _ => by simp) b45
end Go.Sx
end
section
/- Crew: seatings, what they weigh. No conditions. -/
set_option linter.unusedSimpArgs false
set_option linter.unusedSectionVars false
set_option maxRecDepth 100000
set_option maxHeartbeats 2000000
namespace Go.Sx
open Go.Proofs
attribute [local irreducible] HLe

/-! a number in a list -/
def isN (n : Int) (x : Int) : Bool := decide (n = x)
@[simp] def inE (d : List Int × Int) : List V := [.sl 1 (d.1.map ri), .int .i64 d.2]
theorem inE_inj (a b : List Int × Int) (h : inE a = inE b) : a = b := by
  obtain ⟨a1, a2⟩ := a; obtain ⟨b1, b2⟩ := b
  simp only [inE, List.cons.injEq, V.sl.injEq, V.int.injEq, true_and, and_true] at h
  rw [map_ri_inj h.1, h.2]
theorem inE_dec (l : List Int) (n : Int) : decC inE [.sl 1 (l.map ri), .int .i64 n] = (l, n) := decC_eq inE_inj (l, n)
noncomputable abbrev inxS : PSpec := mkP inE (fun d => d.1.length ≤ 1000000) fun d => .int .i64 (idxZ d.1 (isN d.2))
noncomputable abbrev conS : PSpec := mkP inE (fun d => d.1.length ≤ 1000000) fun d => .bool (d.1.contains d.2)
noncomputable abbrev E97 : Env := { P := Try.prog, fn := tbl [], own := [], key := 9700, nt := 19 }
theorem b97 : PureBody E97 [] Try.f97 inxS := by
  refine pb ?_
  rintro ⟨l, n⟩ hl
  have hl : l.length ≤ 1000000 := hl
  simp -dsimp [Try.f97, E97]
  refine awp_loop [9, 10, 5, 11, 12, 13, 14, 15, 16, 17, 4, 18, 8] (fun k : { k : Nat // k ≤ l.length ∧ ∀ j (h : j < l.length), j < k → isN n l[j] = false } => [(8, (true, .int .i64 k.1))]) (fun _ => noH) (fun k => l.length - k.1) ⟨0, by omega, fun _ _ h => by omega⟩ ?_ (HLe.refl _) ?_
  · simp [okAll, okv]
  rintro ⟨k, hk, hall⟩
  by_cases hk1 : k < l.length
  · have hki : (k : Int) < l.length := by omega
    have wk : IntKind.wrap .i64 ((k : Int) + 1) = (k + 1 : Nat) := wrap_id (by omega) (by omega)
    obtain ⟨x, hx⟩ : ∃ x, l[k]? = some x := ⟨_, List.getElem?_eq_getElem hk1⟩
    have hx' : l[k] = x := (List.getElem?_eq_some_iff.1 hx).2
    by_cases hw : n = x
    · have hz := idxZ_at l (isN n) hk1 (by rw [hx']; simpa [isN] using hw) hall
      simp -dsimp [hki]
      repeat' (first | omega | (simp -dsimp [E97, ri, cellp, ints, hki, hk1, hl, hx, hx', hw, wk, hz]) | (refine Also.intro ?_ fun _ => ?_) | (refine Hold.intro fun _ => ?_) | (refine And.intro ?_ ?_))
      all_goals (subst hw; simp [hz])
    · have hw' : (n = x) = False := eq_false hw
      simp -dsimp [hki]
      repeat' (first | omega | (simp -dsimp [E97, ri, cellp, ints, hki, hk1, hl, hx, hx', hw', wk]) | (refine Also.intro ?_ fun _ => ?_) | (refine Hold.intro fun _ => ?_) | (refine And.intro ?_ ?_))
      refine ⟨k + 1, tle_chain rfl ?_, HLe.refl _, ⟨by omega, fun j h hj => ?_⟩, by omega⟩
      · simp [okAll, okv]
      · by_cases hjk : j = k
        · subst hjk; rw [hx']; simpa [isN] using hw
        · exact hall j h (by omega)
  · have hkn : ¬ (k : Int) < l.length := by omega
    have hz := idxZ_none l (isN n) (fun j h => hall j h (by omega))
    simp -dsimp [hkn]
    repeat' (first | omega | (simp -dsimp [E97, ri, cellp, ints, hkn, hz]) | (refine Also.intro ?_ fun _ => ?_) | (refine Hold.intro fun _ => ?_) | (refine And.intro ?_ ?_))
theorem ok97 : FnOK Try.prog 97 (.pure inxS) := pure_fn (E := E97) rfl LOK.nil (ok := []) (fn := Try.f97) (by kernel_rfl) (by kernel_rfl) (by kernel_rfl) (by kernel_rfl) rfl (fun _ _ => by simp) b97
theorem con_any (l : List Int) (n : Int) : l.contains n = decide (0 ≤ idxZ l (isN n)) := by
  have h : l.contains n = l.any (isN n) := by
    induction l with
    | nil => rfl
    | cons x l ih => rw [List.contains_cons, List.any_cons, ih, isN]; rfl
  rw [h, idxZ_any]
theorem mem_idx (l : List Int) (n : Int) : (n ∈ l) = (0 ≤ idxZ l (isN n)) := by
  have := con_any l n
  rw [Bool.eq_iff_iff] at this
  simpa using this
noncomputable abbrev E71 : Env := { P := Try.prog, fn := tbl [(97, .pure inxS)], own := [], key := 7100, nt := 9 }
theorem b71 : PureBody E71 [] Try.f71 conS := by
  refine pb ?_
  rintro ⟨l, n⟩ hl
  have hl : l.length ≤ 1000000 := hl
  have hz := mem_idx l n
  simp -dsimp [Try.f71, E71]
  repeat' (first | omega | (simp -dsimp [E71, ri, cellp, ints, hl, inE_dec, hz]) | (refine Also.intro ?_ fun _ => ?_) | (refine Hold.intro fun _ => ?_) | (refine And.intro ?_ ?_))
theorem ok71 : FnOK Try.prog 71 (.pure conS) := pure_fn (E := E71) rfl (.cons ok97 .nil) (ok := []) (fn := Try.f71) (by kernel_rfl) (by kernel_rfl) (by kernel_rfl) (by kernel_rfl) rfl (fun _ _ => by simp) b71

/-! a seat -/
@[simp] def siE (d : Ca × Gu × List Int × Int) : List V := [.agg d.1.row, .agg d.2.1.row, .sl 1 (d.2.2.1.map ri), .int .i64 d.2.2.2]
theorem siE_inj (a b : Ca × Gu × List Int × Int) (h : siE a = siE b) : a = b := by
  obtain ⟨a1, a2, a3, a4⟩ := a; obtain ⟨b1, b2, b3, b4⟩ := b
  simp only [siE, List.cons.injEq, V.sl.injEq, V.int.injEq, V.agg.injEq, true_and, and_true] at h
  rw [Ca.row_inj _ _ h.1, Gu.row_inj _ _ h.2.1, map_ri_inj h.2.2.1, h.2.2.2]
theorem siE_dec (c : Ca) (g : Gu) (l : List Int) (n : Int) : decC siE [.agg [.int .i64 c.emp, .int .i64 c.arm, .sl 2 (c.st.map Se.row), .int .i64 c.farm, .int .i64 c.low, .int .i64 c.high], .agg [.int .i64 g.w, .bool g.suit, .int .i64 g.dive, .bool g.able], .sl 1 (l.map ri), .int .i64 n] = (c, g, l, n) := decC_eq siE_inj (c, g, l, n)
structure SiP (d : Ca × Gu × List Int × Int) : Prop where
  c : d.1.st.length ≤ 1000000
  b : d.2.2.1.length ≤ 1000000
/-- A nil slice is a slice of no elements. -/
def nf2 : List V → List V
  | [a, b, .nil, d] => [a, b, .sl 1 [], d]
  | l => l
theorem nf2_nil (a b d : V) : nf2 [a, b, .nil, d] = [a, b, .sl 1 [], d] := rfl
theorem nf2_sl (a b d : V) (z : Nat) (els : List (List V)) : nf2 [a, b, .sl z els, d] = [a, b, .sl z els, d] := rfl
noncomputable abbrev sitsS : PSpec := { dom := Ca × Gu × List Int × Int, enc := siE, dec := fun l => decC siE (nf2 l), pre := SiP, res := fun d => .bool (sitsB d.1 d.2.1 d.2.2.1 d.2.2.2) }
noncomputable abbrev E48 : Env := { P := Try.prog, fn := tbl [(42, .pure withinS), (71, .pure conS)], own := [], key := 4800, nt := 34 }
theorem b48 : PureBody E48 [] Try.f48 sitsS := by
  refine pb ?_
  rintro ⟨c, g, l, n⟩ ⟨hc, hl⟩
  simp only at hc hl
  have hS : sitsB c g l n = (withinB n 0 (c.st.length - 1) && !l.contains n && (g.able || !(c.st.getD n.toNat default).ex)) := rfl
  have hwp : IntKind.wrap .i64 ((c.st.length : Int) - 1) = c.st.length - 1 := wrap_id (by omega) (by omega)
  cases h1 : withinB n 0 (c.st.length - 1)
  · rw [h1] at hS
    simp -dsimp [Try.f48, E48, Ca.row, Gu.row]
    repeat' (first | omega | (simp -dsimp [E48, ri, cellp, ints, Ca.row, Gu.row, hwp, h1, hS]) | (refine Also.intro ?_ fun _ => ?_) | (refine Hold.intro fun _ => ?_) | (refine And.intro ?_ ?_))
  have hn : 0 ≤ n ∧ n ≤ c.st.length - 1 := by simpa [withinB] using h1
  obtain ⟨k, rfl⟩ : ∃ k : Nat, n = k := ⟨n.toNat, by omega⟩
  have hk : k < c.st.length := by omega
  obtain ⟨s, hs⟩ : ∃ s, c.st[k]? = some s := ⟨_, List.getElem?_eq_getElem hk⟩
  have hs' : c.st[k] = s := (List.getElem?_eq_some_iff.1 hs).2
  have hsd : c.st.getD (k : Int).toNat default = s := by simp [List.getD, hs]
  rw [h1, hsd] at hS
  have hki : (k : Int) < c.st.length := by omega
  cases h2 : l.contains (k : Int) <;> rw [h2] at hS
  · have h2 : ((k : Int) ∈ l) = False := eq_false (by simpa using h2)
    cases h3 : g.able <;> rw [h3] at hS
    · simp -dsimp [Try.f48, E48, Ca.row, Gu.row]
      repeat' (first | omega | (simp -dsimp [E48, ri, cellp, ints, Ca.row, Gu.row, Se.row, hwp, h1, h2, h3, hl, hs, hs', hk, hki, inE_dec, hS]) | (refine Also.intro ?_ fun _ => ?_) | (refine Hold.intro fun _ => ?_) | (refine And.intro ?_ ?_))
    · simp -dsimp [Try.f48, E48, Ca.row, Gu.row]
      repeat' (first | omega | (simp -dsimp [E48, ri, cellp, ints, Ca.row, Gu.row, Se.row, hwp, h1, h2, h3, hl, hs, hs', hk, hki, inE_dec, hS]) | (refine Also.intro ?_ fun _ => ?_) | (refine Hold.intro fun _ => ?_) | (refine And.intro ?_ ?_))
  · have h2 : ((k : Int) ∈ l) = True := eq_true (by simpa using h2)
    simp -dsimp [Try.f48, E48, Ca.row, Gu.row]
    repeat' (first | omega | (simp -dsimp [E48, ri, cellp, ints, Ca.row, Gu.row, Se.row, hwp, h1, h2, hl, hs, hs', hk, hki, inE_dec, hS]) | (refine Also.intro ?_ fun _ => ?_) | (refine Hold.intro fun _ => ?_) | (refine And.intro ?_ ?_))
theorem ok48 : FnOK Try.prog 48 (.pure sitsS) := pure_fn (E := E48) rfl (.cons ok42 (.cons ok71 .nil)) (ok := []) (fn := Try.f48) (by kernel_rfl) (by kernel_rfl) (by kernel_rfl) (by kernel_rfl) rfl (fun _ _ => by simp) b48

/-! a seating -/
@[simp] def rtE (d : Ca × List Gu × List Int) : List V := [.agg d.1.row, .sl 4 (d.2.1.map Gu.row), .sl 1 (d.2.2.map ri)]
theorem rtE_inj (a b : Ca × List Gu × List Int) (h : rtE a = rtE b) : a = b := by
  obtain ⟨a1, a2, a3⟩ := a; obtain ⟨b1, b2, b3⟩ := b
  simp only [rtE, List.cons.injEq, V.sl.injEq, V.agg.injEq, true_and, and_true] at h
  rw [Ca.row_inj _ _ h.1, mapRow_inj Gu.row_inj h.2.1, map_ri_inj h.2.2]
theorem rtE_dec (c : Ca) (l : List Gu) (s : List Int) : decC rtE [.agg [.int .i64 c.emp, .int .i64 c.arm, .sl 2 (c.st.map Se.row), .int .i64 c.farm, .int .i64 c.low, .int .i64 c.high], .sl 4 (l.map Gu.row), .sl 1 (s.map ri)] = (c, l, s) := decC_eq rtE_inj (c, l, s)
structure RtP (d : Ca × List Gu × List Int) : Prop where
  c : d.1.st.length ≤ 1000000
  l : d.2.1.length ≤ 1000000
  s : d.2.2.length ≤ 1000000
noncomputable abbrev rightS : PSpec := mkP rtE RtP fun d => .bool (rightB d.1 d.2.1 d.2.2)
theorem right_no {c : Ca} {l : List Gu} {s : List Int} (h : s.length ≠ l.length) : rightB c l s = false := by simp [rightB, h]
theorem right_bad {c : Ca} {l : List Gu} {s : List Int} {k : Nat} (hk : k < l.length) (h : seatOk c l s k = false) : rightB c l s = false := by
  have : (List.range l.length).all (fun i => seatOk c l s i) = false := by
    rw [List.all_eq_false]; exact ⟨k, by simpa using hk, by simp [h]⟩
  rw [rightB, this, Bool.and_false]
theorem right_ok {c : Ca} {l : List Gu} {s : List Int} (h0 : s.length = l.length) (h : ∀ j, j < l.length → seatOk c l s j = true) : rightB c l s = true := by
  have : (List.range l.length).all (fun i => seatOk c l s i) = true := by
    rw [List.all_eq_true]; exact fun j hj => h j (by simpa using hj)
  rw [rightB, this, decide_eq_true h0]; rfl
noncomputable abbrev E72 : Env := { P := Try.prog, fn := tbl [(48, .pure sitsS)], own := [], key := 7200, nt := 33 }
theorem b72 : PureBody E72 [] Try.f72 rightS := by
  refine pb ?_
  rintro ⟨c, l, s⟩ ⟨hc, hl, hs⟩
  simp only at hc hl hs
  by_cases h0 : s.length = l.length
  case neg =>
    have h0' : ((s.length : Int) = l.length) = False := eq_false (by omega)
    have hz := right_no (c := c) h0
    simp -dsimp [Try.f72, E72, Ca.row]
    repeat' (first | omega | (simp -dsimp [E72, ri, cellp, ints, Ca.row, h0', hz]) | (refine Also.intro ?_ fun _ => ?_) | (refine Hold.intro fun _ => ?_) | (refine And.intro ?_ ?_))
  have h0' : ((s.length : Int) = l.length) = True := eq_true (by omega)
  simp -dsimp [Try.f72, E72, Ca.row]
  repeat' (first | omega | (simp -dsimp [E72, ri, cellp, ints, Ca.row, h0']) | (refine Also.intro ?_ fun _ => ?_) | (refine Hold.intro fun _ => ?_) | (refine And.intro ?_ ?_))
  refine awp_loop [17, 18, 19, 20, 7, 8, 21, 22, 23, 24, 25, 26, 27, 28, 29, 30, 31, 6, 32, 16] (fun k : { k : Nat // k ≤ s.length ∧ ∀ j, j < k → seatOk c l s j = true } => [(16, (true, .int .i64 k.1))]) (fun _ => hps [(7203, { base := 0, blks := [{ z := 6, els := [c.row], ty := 49 }] })] noH) (fun k => s.length - k.1) ⟨0, by omega, fun _ h => by omega⟩ ?_ ?_ ?_
  · simp [okAll, okv]
  · exact (by (try simp -dsimp only [hpush_noH, hpush_hps, hps_over]); refine hle_hps ?_; simp -dsimp [allK, Ca.row]; repeat' (first | (refine And.intro ?_ ?_) | (refine sLe.same ?_ ?_ <;> (simp; done)) | (refine sLe.clear ?_ ?_ <;> (first | (simp; done) | (simp; omega))) | (refine sLe.drop 1 ?_ ?_ ?_ <;> (simp; done))))
  rintro ⟨k, hk, hall⟩
  dsimp only
  by_cases hk1 : k < s.length
  · have hki : (k : Int) < s.length := by omega
    have hkl : k < l.length := by omega
    have hkli : (k : Int) < l.length := by omega
    have wk : IntKind.wrap .i64 ((k : Int) + 1) = (k + 1 : Nat) := wrap_id (by omega) (by omega)
    obtain ⟨x, hx⟩ : ∃ x, s[k]? = some x := ⟨_, List.getElem?_eq_getElem hk1⟩
    have hx' : s[k] = x := (List.getElem?_eq_some_iff.1 hx).2
    obtain ⟨g, hg⟩ : ∃ g, l[k]? = some g := ⟨_, List.getElem?_eq_getElem hkl⟩
    have hg' : l[k] = g := (List.getElem?_eq_some_iff.1 hg).2
    have hok : seatOk c l s k = sitsB c g (s.take k) x := by
      rw [seatOk, show guAt l k = g by simp [guAt, List.getD, hg], show s.getD k 0 = x by simp [List.getD, hx]]
    have hmt : List.take k (s.map ri) = (s.take k).map ri := by rw [List.map_take]
    have hlk : (s.take k).length ≤ 1000000 := by simp; omega
    have hkn : k ≤ s.length := by omega
    generalize s.take k = sk at *
    have hSP : SiP (c, g, sk, x) := ⟨hc, hlk⟩
    cases hb : sitsB c g sk x
    · have hz := right_bad hkl (by rw [hok, hb])
      simp -dsimp [hki]
      repeat' (first | omega | (simp -dsimp [E72, ri, cellp, ints, hki, hk1, hkli, hkl, hkn, hx, hx', hg, hg', hmt, wk, siE_dec, nf2_sl, hSP, hb, hz, Gu.row, Ca.row]) | (refine Also.intro ?_ fun _ => ?_) | (refine Hold.intro fun _ => ?_) | (refine And.intro ?_ ?_))
    · simp -dsimp [hki]
      repeat' (first | omega | (simp -dsimp [E72, ri, cellp, ints, hki, hk1, hkli, hkl, hkn, hx, hx', hg, hg', hmt, wk, siE_dec, nf2_sl, hSP, hb, Gu.row, Ca.row]) | (refine Also.intro ?_ fun _ => ?_) | (refine Hold.intro fun _ => ?_) | (refine And.intro ?_ ?_))
      refine ⟨k + 1, tle_chain rfl ?_, HLe.refl _, ⟨by omega, fun j hj => ?_⟩, by omega⟩
      · simp [okAll, okv]
      · by_cases hjk : j = k
        · subst hjk; rw [hok, hb]
        · exact hall j (by omega)
  · have hkn : ¬ (k : Int) < s.length := by omega
    have hz := right_ok (c := c) h0 fun j hj => hall j (by omega)
    simp -dsimp [hkn]
    repeat' (first | omega | (simp -dsimp [E72, ri, cellp, ints, hkn, hz]) | (refine Also.intro ?_ fun _ => ?_) | (refine Hold.intro fun _ => ?_) | (refine And.intro ?_ ?_))
theorem ok72 : FnOK Try.prog 72 (.pure rightS) := pure_fn (E := E72) rfl (.cons ok48 .nil) (ok := []) (fn := Try.f72) (by kernel_rfl) (by kernel_rfl) (by kernel_rfl) (by kernel_rfl) rfl (fun _ _ => by simp) b72

/-! a cabin, guests, fuel and a seating -/
@[simp] def pcE (d : Ca × List Gu × List Int × Sp) : List V := [.agg d.1.row, .sl 4 (d.2.1.map Gu.row), .sl 1 (d.2.2.1.map ri), .agg d.2.2.2.row]
theorem pcE_inj (a b : Ca × List Gu × List Int × Sp) (h : pcE a = pcE b) : a = b := by
  obtain ⟨a1, a2, a3, a4⟩ := a; obtain ⟨b1, b2, b3, b4⟩ := b
  simp only [pcE, List.cons.injEq, V.sl.injEq, V.agg.injEq, true_and, and_true] at h
  rw [Ca.row_inj _ _ h.1, mapRow_inj Gu.row_inj h.2.1, map_ri_inj h.2.2.1, Sp.row_inj _ _ h.2.2.2]
theorem pcE_dec (c : Ca) (l : List Gu) (s : List Int) (f : Sp) : decC pcE [.agg [.int .i64 c.emp, .int .i64 c.arm, .sl 2 (c.st.map Se.row), .int .i64 c.farm, .int .i64 c.low, .int .i64 c.high], .sl 4 (l.map Gu.row), .sl 1 (s.map ri), .agg [.int .i64 f.lo, .int .i64 f.hi]] = (c, l, s, f) := decC_eq pcE_inj (c, l, s, f)
structure PcP (d : Ca × List Gu × List Int × Sp) : Prop where
  c : d.1.st.length ≤ 900000
  l : d.2.1.length ≤ 1000000
  s : d.2.2.1.length ≤ 1000000
def seaE (c : Ca) (l : List Gu) (s : List Int) (f : Sp) : Int := if lodE c l f = 0 then (if rightB c l s = true then 0 else 1) else lodE c l f
noncomputable abbrev seaS : PSpec := mkP pcE PcP fun d => .int .i64 (seaE d.1 d.2.1 d.2.2.1 d.2.2.2)
noncomputable abbrev E50 : Env := { P := Try.prog, fn := tbl [(45, .pure lodS), (72, .pure rightS)], own := [], key := 5000, nt := 22 }
theorem b50 : PureBody E50 [] Try.f50 seaS := by
  refine pb ?_
  rintro ⟨c, l, s, f⟩ ⟨hc, hl, hs⟩
  simp only at hc hl hs
  have hL : LoP (c, l, f) := ⟨hc, hl⟩
  have hR : RtP (c, l, s) := ⟨by simp only; omega, hl, hs⟩
  have hK : seaE c l s f = if lodE c l f = 0 then (if rightB c l s = true then 0 else 1) else lodE c l f := rfl
  generalize h1 : lodE c l f = e at hK
  by_cases he : e = 0
  · subst he
    rw [if_pos rfl] at hK
    cases h2 : rightB c l s <;> rw [h2] at hK
    · simp -dsimp [Try.f50, E50, Ca.row, Sp.row]
      repeat' (first | omega | (simp -dsimp [E50, ri, cellp, ints, Ca.row, Sp.row, lodE3_dec, rtE_dec, hL, hR, h1, h2, hK]) | (refine Also.intro ?_ fun _ => ?_) | (refine Hold.intro fun _ => ?_) | (refine And.intro ?_ ?_))
    · simp -dsimp [Try.f50, E50, Ca.row, Sp.row]
      repeat' (first | omega | (simp -dsimp [E50, ri, cellp, ints, Ca.row, Sp.row, lodE3_dec, rtE_dec, hL, hR, h1, h2, hK]) | (refine Also.intro ?_ fun _ => ?_) | (refine Hold.intro fun _ => ?_) | (refine And.intro ?_ ?_))
  · rw [if_neg he] at hK
    have he' : (e = 0) = False := eq_false he
    simp -dsimp [Try.f50, E50, Ca.row, Sp.row]
    repeat' (first | omega | (simp -dsimp [E50, ri, cellp, ints, Ca.row, Sp.row, lodE3_dec, hL, h1, he', hK]) | (refine Also.intro ?_ fun _ => ?_) | (refine Hold.intro fun _ => ?_) | (refine And.intro ?_ ?_))
theorem ok50 : FnOK Try.prog 50 (.pure seaS) := pure_fn (E := E50) rfl (.cons ok45 (.cons ok72 .nil)) (ok := []) (fn := Try.f50) (by kernel_rfl) (by kernel_rfl) (by kernel_rfl) (by kernel_rfl) rfl (fun _ _ => by simp) b50
end Go.Sx
end
