/- A part of a proof; no conditions. -/
import Derived.Test.YtnpdjaikmdagmaaP15
import Derived.Test.YtnpdjaikmdagmaaP14
import Derived.Test.YtnpdjaikmdagmaaP11
import Derived.Test.YtnpdjaikmdagmaaP10
set_option linter.unusedSimpArgs false
set_option linter.unusedVariables false
set_option linter.unusedSectionVars false
section
/- Crew: what is right beside duties; calls; why somebody may not fly. No conditions. -/
set_option linter.unusedSimpArgs false
set_option linter.unusedSectionVars false
set_option maxRecDepth 100000
set_option maxHeartbeats 2000000
namespace Go.Sx
open Go.Proofs
attribute [local irreducible] HLe

@[simp] def ckE (d : Ro × List Du × Bool) : List V := [.agg d.1.row, .sl 3 (d.2.1.map Du.row), .bool d.2.2]
theorem ckE_inj (a b : Ro × List Du × Bool) (h : ckE a = ckE b) : a = b := by
  obtain ⟨a1, a2, a3⟩ := a; obtain ⟨b1, b2, b3⟩ := b
  simp only [ckE, List.cons.injEq, V.agg.injEq, V.sl.injEq, V.bool.injEq, true_and, and_true] at h
  rw [Ro.row_inj _ _ h.1, mapRow_inj Du.row_inj h.2.1, h.2.2]
theorem ckE_dec (r : Ro) (l : List Du) (b : Bool) : decC ckE [.agg [.sl 3 (r.ppl.map Pn.row), .int .i64 r.lng, .int .i64 r.rst, .int .i64 r.win, .int .i64 r.tot, .int .i64 r.rcn], .sl 3 (l.map Du.row), .bool b] = (r, l, b) := decC_eq ckE_inj (r, l, b)
noncomputable abbrev ckS : PSpec := mkP ckE (fun d => ChP (d.1, d.2.1)) fun d => .int .i64 (chk2W srtD d.1 d.2.1 d.2.2)
noncomputable abbrev E41 : Env := { P := Try.prog, fn := tbl [(26, .pure chS)], own := [], key := 4100, nt := 22 }
theorem b41 : PureBody E41 [] Try.f41 ckS := by
  refine pb ?_
  rintro ⟨r, l, b⟩ hC
  have hC : ChP (r, l) := hC
  have h2 : chk2W srtD r l b = if (chkEW srtD r l).2 = 0 then (if b = true then 0 else 1) else (chkEW srtD r l).2 := rfl
  rcases hK : chkEW srtD r l with ⟨i, e⟩
  rw [hK] at h2
  dsimp only at h2
  by_cases he : e = 0
  · subst he
    rw [if_pos rfl] at h2
    cases b
    · simp -dsimp [Try.f41, E41, Ro.row, pplV]
      repeat' (first | omega | (simp -dsimp [E41, ri, cellp, ints, Ro.row, pplV, chE_dec, hC, hK, h2]) | (refine Also.intro ?_ fun _ => ?_) | (refine Hold.intro fun _ => ?_) | (refine And.intro ?_ ?_))
    · simp -dsimp [Try.f41, E41, Ro.row, pplV]
      repeat' (first | omega | (simp -dsimp [E41, ri, cellp, ints, Ro.row, pplV, chE_dec, hC, hK, h2]) | (refine Also.intro ?_ fun _ => ?_) | (refine Hold.intro fun _ => ?_) | (refine And.intro ?_ ?_))
  · rw [if_neg he] at h2
    have he' : ((e : Int) = 0) = False := eq_false he
    simp -dsimp [Try.f41, E41, Ro.row, pplV]
    repeat' (first | omega | (simp -dsimp [E41, ri, cellp, ints, Ro.row, pplV, chE_dec, hC, hK, h2, he']) | (refine Also.intro ?_ fun _ => ?_) | (refine Hold.intro fun _ => ?_) | (refine And.intro ?_ ?_))
theorem ok41 : FnOK Try.prog 41 (.pure ckS) := pure_fn (E := E41) rfl (.cons ok26 .nil) (ok := []) (fn := Try.f41) (by kernel_rfl) (by kernel_rfl) (by kernel_rfl) (by kernel_rfl) rfl (fun _ _ => by simp) b41
@[simp] def clE (c : Cl) : List V := [.agg c.row]
theorem clE_inj (a b : Cl) (h : clE a = clE b) : a = b := Cl.row_inj _ _ (by simpa using h)
theorem clE_dec (c : Cl) : decC clE [.agg [.int .i64 c.a, .int .i64 c.b, .int .i64 c.craft, .bool c.water]] = c := decC_eq clE_inj c
noncomputable abbrev callS : PSpec := mkP clE (fun _ => True) fun c => .bool (callW c)
theorem callW_eq (c : Cl) : callW c = (strW c.a c.b && withinB c.craft 0 7) := rfl
noncomputable abbrev E43 : Env := { P := Try.prog, fn := tbl [(55, .pure strS), (42, .pure withinS)], own := [], key := 4300, nt := 13 }
theorem b43 : PureBody E43 [] Try.f43 callS := by
  refine pb ?_
  rintro ⟨a, b, k, w⟩ _
  simp -dsimp [Try.f43, E43, callW_eq, Cl.row]
theorem ok43 : FnOK Try.prog 43 (.pure callS) := pure_fn (E := E43) rfl (.cons ok55 (.cons ok42 .nil)) (ok := []) (fn := Try.f43) (by kernel_rfl) (by kernel_rfl) (by kernel_rfl) (by kernel_rfl) rfl (fun _ _ => by simp) b43

/-! why -/
@[simp] def whE (d : Ro × List Du × Int × Cl) : List V := [.agg d.1.row, .sl 3 (d.2.1.map Du.row), .int .i64 d.2.2.1, .agg d.2.2.2.row]
theorem whE_inj (a b : Ro × List Du × Int × Cl) (h : whE a = whE b) : a = b := by
  obtain ⟨a1, a2, a3, a4⟩ := a; obtain ⟨b1, b2, b3, b4⟩ := b
  simp only [whE, List.cons.injEq, V.agg.injEq, V.sl.injEq, V.int.injEq, true_and, and_true] at h
  rw [Ro.row_inj _ _ h.1, mapRow_inj Du.row_inj h.2.1, h.2.2.1, Cl.row_inj _ _ h.2.2.2]
theorem whE_dec (r : Ro) (l : List Du) (n : Int) (c : Cl) : decC whE [.agg [.sl 3 (r.ppl.map Pn.row), .int .i64 r.lng, .int .i64 r.rst, .int .i64 r.win, .int .i64 r.tot, .int .i64 r.rcn], .sl 3 (l.map Du.row), .int .i64 n, .agg [.int .i64 c.a, .int .i64 c.b, .int .i64 c.craft, .bool c.water]] = (r, l, n, c) := decC_eq whE_inj (r, l, n, c)
structure WhP (d : Ro × List Du × Int × Cl) : Prop where
  fit : d.1.Fit
  len : d.2.1.length ≤ 60
  beg : ∀ x ∈ d.2.1, 0 ≤ x.a ∧ x.a ≤ 9223372036854775807
  n : 0 ≤ d.2.2.1 ∧ d.2.2.1 ≤ d.1.ppl.length - 1
  call : callW d.2.2.2 = true
theorem WhP.of {r : Ro} {l : List Du} {n : Int} {c : Cl} (h : (chkEW srtD r l).2 = 0) (hn : 0 ≤ n ∧ n ≤ r.ppl.length - 1) (hc : callW c = true) : WhP (r, l, n, c) := by
  unfold chkEW at h
  split at h
  · rename_i h1
    split at h
    · simp at h
    · rename_i h2
      split at h
      · simp at h
      · rename_i h3
        refine ⟨Ro.ok_iff.1 h1, by simpa using h2, ?_, hn, hc⟩
        have hb : badDuW srtD r l = -1 := by
          apply Classical.byContradiction
          intro hne
          obtain ⟨k, _, e, _⟩ := idxZ_some hne
          exact h3 (by rw [badDuW, e]; omega)
        have hall : ∀ j, j < l.length → duOkW srtD r l j = true := by
          intro j hj
          apply Classical.byContradiction
          intro hne
          have : idxZ (List.range l.length) (fun i => !duOkW srtD r l i) ≠ -1 := by
            intro e
            have h0 := idxZ_any (List.range l.length) (fun i => !duOkW srtD r l i)
            rw [e, decide_eq_false (by omega)] at h0
            have := (List.any_eq_false.1 h0.symm) j (List.mem_range.2 hj)
            simp at this; exact hne this
          exact this hb
        have := duOkW_begs (r := r) (Nat.le_refl l.length) hall
        rwa [List.take_length] at this
  · simp at h
noncomputable abbrev whyS : PSpec := mkP whE WhP fun d => ints (whyW srtD d.1 d.2.1 d.2.2.1 d.2.2.2)
theorem bit_of {x k : Int} (hx : 0 ≤ x ∧ x ≤ 255) (hk : 0 ≤ k ∧ k ≤ 7) : bitw .and .i64 (shrV .i64 x k) 1 = if bit1 x k = true then 1 else 0 := by
  obtain ⟨a, rfl⟩ : ∃ a : Nat, x = a := ⟨x.toNat, by omega⟩
  obtain ⟨n, rfl⟩ : ∃ n : Nat, k = n := ⟨k.toNat, by omega⟩
  have h : sr a n < 9223372036854775808 := Nat.lt_of_le_of_lt (Nat.shiftRight_le a n) (by omega)
  rw [bit_shr a n (by omega), show (1 : Int) = ((1 : Nat) : Int) from rfl, bit_and h (by omega), bit_one]
  unfold bit1
  simp only [Int.toNat_natCast]
  split <;> rfl
noncomputable abbrev E44 : Env := { P := Try.prog, fn := tbl [(56, .pure ofS), (57, .pure brkS)], own := [], key := 4400, nt := 50 }
theorem b44 : PureBody E44 [] Try.f44 whyS := by
  refine pb ?_
  rintro ⟨r, l, n, c⟩ ⟨hf, hl, hb, hn, hcall⟩
  simp only at hf hl hb hn hcall
  obtain ⟨k, rfl⟩ : ∃ k : Nat, n = k := ⟨n.toNat, by omega⟩
  have hk : k < r.ppl.length := by omega
  have hki : (k : Int) < r.ppl.length := by omega
  obtain ⟨p, hp⟩ : ∃ p, r.ppl[k]? = some p := ⟨_, List.getElem?_eq_getElem hk⟩
  have hp' : r.ppl[k] = p := (List.getElem?_eq_some_iff.1 hp).2
  have hpa : pnAt r k = p := by simp [pnAt, List.getD, hp]
  have hpo := hf.p p (by rw [← hp']; exact List.getElem_mem hk)
  have hrat : 0 ≤ p.rat ∧ p.rat ≤ 255 := by
    simp only [Pn.ok, Bool.and_eq_true, decide_eq_true_eq] at hpo; exact hpo.1.1
  have hcr : 0 ≤ c.craft ∧ c.craft ≤ 7 := by
    simp only [callW, Bool.and_eq_true, decide_eq_true_eq] at hcall; exact hcall.2
  have hst : strW c.a c.b = true := by
    simp only [callW, Bool.and_eq_true] at hcall; exact hcall.1
  have hbit := bit_of hrat hcr
  have hsb := strW_beg hst
  have hll : l.length ≤ 1000000 := by omega
  have hBg : Beg (own l k ++ [⟨k, c.a, c.b⟩]) := ⟨by have := own_len l k; simp; omega, fun x hx => by
    rcases List.mem_append.1 hx with h | h
    · exact hb x (own_mem.1 h).1
    · exact List.mem_singleton.1 h ▸ hsb⟩
  have hW : whyW srtD r l k c = (if bit1 p.rat c.craft = true then [] else [1]) ++ (if c.water = true ∧ p.dive < c.b then [2] else []) ++ brkW srtD r (own l k) ⟨k, c.a, c.b⟩ := by unfold whyW; rw [hpa]
  have hBl : (brkW srtD r (own l k) ⟨k, c.a, c.b⟩).length ≤ 4 := by
    unfold brkW
    simp only [List.length_append]
    split <;> split <;> split <;> split <;> simp
  generalize hB : brkW srtD r (own l k) ⟨k, c.a, c.b⟩ = B at *
  have hre := reE_dec r (own l k) ⟨k, c.a, c.b⟩
  simp only at hre
  have hd : (decide (p.dive < c.b)) = decide (p.dive < c.b) := rfl
  cases h1 : bit1 p.rat c.craft <;> rw [h1] at hbit hW
  all_goals
    cases h2 : c.water <;> rw [h2] at hW
    · simp at hW
      simp -dsimp [Try.f44, E44, Ro.row, pplV, Cl.row]
      repeat' (first | omega | (simp -dsimp [E44, ri, cellp, ints, Ro.row, pplV, Cl.row, Pn.row, bkRow, hk, hki, hp, hp', hbit, hll, ofE_dec, hre, hBg, hB, hBl, h2, hW]) | (refine Also.intro ?_ fun _ => ?_) | (refine Hold.intro fun _ => ?_) | (refine And.intro ?_ ?_))
    · by_cases h3 : p.dive < c.b
      · simp [h3] at hW
        simp -dsimp [Try.f44, E44, Ro.row, pplV, Cl.row]
        repeat' (first | omega | (simp -dsimp [E44, ri, cellp, ints, Ro.row, pplV, Cl.row, Pn.row, bkRow, hk, hki, hp, hp', hbit, hll, ofE_dec, hre, hBg, hB, hBl, h2, h3, hW]) | (refine Also.intro ?_ fun _ => ?_) | (refine Hold.intro fun _ => ?_) | (refine And.intro ?_ ?_))
      · simp [h3] at hW
        have h3' : (p.dive < c.b) = False := eq_false h3
        simp -dsimp [Try.f44, E44, Ro.row, pplV, Cl.row]
        repeat' (first | omega | (simp -dsimp [E44, ri, cellp, ints, Ro.row, pplV, Cl.row, Pn.row, bkRow, hk, hki, hp, hp', hbit, hll, ofE_dec, hre, hBg, hB, hBl, h2, h3', hW]) | (refine Also.intro ?_ fun _ => ?_) | (refine Hold.intro fun _ => ?_) | (refine And.intro ?_ ?_))
theorem ok44 : FnOK Try.prog 44 (.pure whyS) := pure_fn (E := E44) rfl (.cons ok56 (.cons ok57 .nil)) (ok := []) (fn := Try.f44) (by kernel_rfl) (by kernel_rfl) (by kernel_rfl) (by kernel_rfl) rfl (fun _ _ => by simp) b44
end Go.Sx
end
section
/- Crew: Why, Until. No conditions. -/
set_option linter.unusedSimpArgs false
set_option linter.unusedSectionVars false
set_option maxRecDepth 100000
set_option maxHeartbeats 2000000
namespace Go.Sx
open Go.Proofs
attribute [local irreducible] HLe

noncomputable def whyO (r : Ro) (l : List Du) (n : Int) (c : Cl) : List Int × Int :=
  if chk2W srtD r l (withinB n 0 (r.ppl.length - 1) && callW c) = 0 then (whyW srtD r l n c, 0) else ([], chk2W srtD r l (withinB n 0 (r.ppl.length - 1) && callW c))
structure WyP (d : Ro × List Du × Int × Cl) : Prop where
  p : d.1.ppl.length ≤ 1000000
  n : d.2.1.length ≤ 1000000
noncomputable abbrev WhyS : PSpec := mkP whE WyP fun d => .tup [ints (whyO d.1 d.2.1 d.2.2.1 d.2.2.2).1, .int .i64 (whyO d.1 d.2.1 d.2.2.1 d.2.2.2).2]
theorem chk2_zero {r : Ro} {l : List Du} {b : Bool} (h : chk2W srtD r l b = 0) : (chkEW srtD r l).2 = 0 ∧ b = true := by
  unfold chk2W at h
  split at h
  · split at h
    · exact ⟨by assumption, by assumption⟩
    · omega
  · exact absurd h (by assumption)
noncomputable abbrev E16 : Env := { P := Try.prog, fn := tbl [(41, .pure ckS), (42, .pure withinS), (43, .pure callS), (44, .pure whyS)], own := [], key := 1600, nt := 32 }
theorem b16 : PureBody E16 [] Try.f16 WhyS := by
  refine pb ?_
  rintro ⟨r, l, n, c⟩ ⟨hp, hl⟩
  simp only at hp hl
  have hwp : IntKind.wrap .i64 ((r.ppl.length : Int) - 1) = r.ppl.length - 1 := wrap_id (by omega) (by omega)
  have hK : whyO r l n c = if chk2W srtD r l (withinB n 0 (r.ppl.length - 1) && callW c) = 0 then (whyW srtD r l n c, 0) else ([], chk2W srtD r l (withinB n 0 (r.ppl.length - 1) && callW c)) := rfl
  have hCP : ChP (r, l) := ⟨hp, hl⟩
  cases h1 : withinB n 0 (r.ppl.length - 1) <;> rw [h1] at hK
  · generalize he : chk2W srtD r l (false && callW c) = e at hK
    have he1 : chk2W srtD r l false = e := he
    have h0 : ¬ e = 0 := fun h => by have := (chk2_zero (he1.trans h)).2; cases this
    have h0' : (e = 0) = False := eq_false h0
    rw [if_neg h0] at hK
    simp -dsimp [Try.f16, E16, Ro.row, pplV, Cl.row]
    repeat' (first | omega | (simp -dsimp [E16, ri, cellp, ints, Ro.row, pplV, Cl.row, ckE_dec, hCP, hwp, h1, he1, h0', hK]) | (refine Also.intro ?_ fun _ => ?_) | (refine Hold.intro fun _ => ?_) | (refine And.intro ?_ ?_))
  · generalize h2 : callW c = b at hK
    generalize he : chk2W srtD r l (true && b) = e at hK
    have he1 : chk2W srtD r l b = e := he
    by_cases h0 : e = 0
    · subst h0
      rw [if_pos rfl] at hK
      obtain ⟨z1, z2⟩ := chk2_zero he1
      subst z2
      have hn : 0 ≤ n ∧ n ≤ r.ppl.length - 1 := by simpa [withinB] using h1
      have hW := WhP.of z1 hn h2
      simp -dsimp [Try.f16, E16, Ro.row, pplV, Cl.row]
      repeat' (first | omega | (simp -dsimp [E16, ri, cellp, ints, Ro.row, pplV, Cl.row, ckE_dec, clE_dec, whE_dec, hCP, hwp, h1, h2, he1, hW, hK]) | (refine Also.intro ?_ fun _ => ?_) | (refine Hold.intro fun _ => ?_) | (refine And.intro ?_ ?_))
    · rw [if_neg h0] at hK
      have h0' : (e = 0) = False := eq_false h0
      simp -dsimp [Try.f16, E16, Ro.row, pplV, Cl.row]
      repeat' (first | omega | (simp -dsimp [E16, ri, cellp, ints, Ro.row, pplV, Cl.row, ckE_dec, clE_dec, hCP, hwp, h1, h2, he1, h0', hK]) | (refine Also.intro ?_ fun _ => ?_) | (refine Hold.intro fun _ => ?_) | (refine And.intro ?_ ?_))
theorem ok16 : FnOK Try.prog 16 (.pure WhyS) := pure_fn (E := E16) rfl (.cons ok41 (.cons ok42 (.cons ok43 (.cons ok44 .nil)))) (ok := []) (fn := Try.f16) (by kernel_rfl) (by kernel_rfl) (by kernel_rfl) (by kernel_rfl) rfl (fun _ _ => by simp) b16

/-! until -/
@[simp] def utE (d : Ro × List Du × Int × Int) : List V := [.agg d.1.row, .sl 3 (d.2.1.map Du.row), .int .i64 d.2.2.1, .int .i64 d.2.2.2]
theorem utE_inj (a b : Ro × List Du × Int × Int) (h : utE a = utE b) : a = b := by
  obtain ⟨a1, a2, a3, a4⟩ := a; obtain ⟨b1, b2, b3, b4⟩ := b
  simp only [utE, List.cons.injEq, V.agg.injEq, V.sl.injEq, V.int.injEq, true_and, and_true] at h
  rw [Ro.row_inj _ _ h.1, mapRow_inj Du.row_inj h.2.1, h.2.2.1, h.2.2.2]
theorem utE_dec (r : Ro) (l : List Du) (n a : Int) : decC utE [.agg [.sl 3 (r.ppl.map Pn.row), .int .i64 r.lng, .int .i64 r.rst, .int .i64 r.win, .int .i64 r.tot, .int .i64 r.rcn], .sl 3 (l.map Du.row), .int .i64 n, .int .i64 a] = (r, l, n, a) := decC_eq utE_inj (r, l, n, a)
def untN (r : Ro) (a : Int) : Nat := (min (a + r.lng) 2000 - a).toNat
noncomputable def untO (r : Ro) (l : List Du) (n a : Int) : Int × Int :=
  if chk2W srtD r l (withinB n 0 (r.ppl.length - 1) && withinB a 0 2000) = 0 then (if untW srtD r (own l n) n a (untN r a) = 0 then (0, 3) else (untW srtD r (own l n) n a (untN r a), 0)) else (0, chk2W srtD r l (withinB n 0 (r.ppl.length - 1) && withinB a 0 2000))
structure UtP (d : Ro × List Du × Int × Int) : Prop where
  p : d.1.ppl.length ≤ 1000000
  n : d.2.1.length ≤ 1000000
noncomputable abbrev untS : PSpec := mkP utE UtP fun d => .tup [.int .i64 (untO d.1 d.2.1 d.2.2.1 d.2.2.2).1, .int .i64 (untO d.1 d.2.1 d.2.2.1 d.2.2.2).2]
noncomputable abbrev E35 : Env := { P := Try.prog, fn := tbl [(41, .pure ckS), (42, .pure withinS), (38, .pure timeS), (56, .pure ofS), (57, .pure brkS)], own := [], key := 3500, nt := 52 }
theorem b35 : PureBody E35 [] Try.f35 untS := by
  refine pb ?_
  rintro ⟨r, l, n, a⟩ ⟨hp, hl⟩
  simp only at hp hl
  have hwp : IntKind.wrap .i64 ((r.ppl.length : Int) - 1) = r.ppl.length - 1 := wrap_id (by omega) (by omega)
  have hK : untO r l n a = if chk2W srtD r l (withinB n 0 (r.ppl.length - 1) && withinB a 0 2000) = 0 then (if untW srtD r (own l n) n a (untN r a) = 0 then (0, 3) else (untW srtD r (own l n) n a (untN r a), 0)) else (0, chk2W srtD r l (withinB n 0 (r.ppl.length - 1) && withinB a 0 2000)) := rfl
  have hCP : ChP (r, l) := ⟨hp, hl⟩
  cases h1 : withinB n 0 (r.ppl.length - 1) <;> rw [h1] at hK
  · generalize he : chk2W srtD r l (false && withinB a 0 2000) = e at hK
    have he1 : chk2W srtD r l false = e := he
    have h0 : ¬ e = 0 := fun h => by have := (chk2_zero (he1.trans h)).2; cases this
    have h0' : (e = 0) = False := eq_false h0
    rw [if_neg h0] at hK
    simp -dsimp [Try.f35, E35, Ro.row, pplV]
    repeat' (first | omega | (simp -dsimp [E35, ri, cellp, ints, Ro.row, pplV, ckE_dec, hCP, hwp, h1, he1, h0', hK]) | (refine Also.intro ?_ fun _ => ?_) | (refine Hold.intro fun _ => ?_) | (refine And.intro ?_ ?_))
  generalize h2 : withinB a 0 2000 = b at hK
  generalize he : chk2W srtD r l (true && b) = e at hK
  have he1 : chk2W srtD r l b = e := he
  by_cases h0 : e = 0
  case neg =>
    rw [if_neg h0] at hK
    have h0' : (e = 0) = False := eq_false h0
    simp -dsimp [Try.f35, E35, Ro.row, pplV]
    repeat' (first | omega | (simp -dsimp [E35, ri, cellp, ints, Ro.row, pplV, ckE_dec, hCP, hwp, h1, h2, he1, h0', hK]) | (refine Also.intro ?_ fun _ => ?_) | (refine Hold.intro fun _ => ?_) | (refine And.intro ?_ ?_))
  subst h0
  rw [if_pos rfl] at hK
  obtain ⟨z1, z2⟩ := chk2_zero he1
  subst z2
  have hn : 0 ≤ n ∧ n ≤ r.ppl.length - 1 := by simpa [withinB] using h1
  have ha : 0 ≤ a ∧ a ≤ 2000 := by simpa [withinB] using h2
  obtain ⟨hf, hl60, hbeg, _, _⟩ := WhP.of (c := ⟨0, 1, 0, false⟩) z1 hn (by decide)
  simp only at hf hl60 hbeg
  have hlng := hf.lng
  have hw1 : IntKind.wrap .i64 (a + r.lng) = a + r.lng := wrap_id (by omega) (by omega)
  obtain ⟨K, hKn⟩ : ∃ K : Nat, untN r a = K := ⟨_, rfl⟩
  have hKi : (K : Int) = min (a + r.lng) 2000 - a := by rw [← hKn, untN]; omega
  have hmin : (if (2000 : Int) < a + r.lng then 2000 else a + r.lng) = a + K := by
    split <;> omega
  rw [hKn] at hK
  simp -dsimp [Try.f35, E35, Ro.row, pplV]
  repeat' (first | omega | (simp -dsimp [E35, ri, cellp, ints, Ro.row, pplV, ckE_dec, ofE_dec, hCP, hwp, hl, h1, h2, he1, hw1, bkRow]) | (refine Also.intro ?_ fun _ => ?_) | (refine Hold.intro fun _ => ?_) | (refine And.intro ?_ ?_))
  refine awp_loop [38, 39, 40, 43, 44, 45, 46, 47, 48, 49, 50, 51, 8, 9, 41, 42, 12] (fun j : { j : Nat // j ≤ K ∧ untW srtD r (own l n) n a K = untW srtD r (own l n) n a j } => [(12, (true, .int .i64 (a + j.1)))]) (fun _ => hps [(3511, { base := 0, blks := [{ z := 7, els := [bkRow r (own l n)], ty := 102 }] }), (3504, { base := 0, blks := [{ z := 6, els := [r.row], ty := 33 }] })] noH) (fun j => j.1) ⟨K, Nat.le_refl _, rfl⟩ ?_ ?_ ?_
  · simp [okAll, okv, hmin]
  · exact (by (try simp -dsimp only [hpush_noH, hpush_hps, hps_over]); refine hle_hps ?_; simp -dsimp [allK, bkRow, Ro.row, pplV]; repeat' (first | (refine And.intro ?_ ?_) | (refine sLe.same ?_ ?_ <;> (simp; done)) | (refine sLe.clear ?_ ?_ <;> (first | (simp; done) | (simp; omega))) | (refine sLe.drop 1 ?_ ?_ ?_ <;> (simp; done))))
  rintro ⟨j, hj, hU⟩
  dsimp only
  rw [hU] at hK
  rcases j with _ | j
  · have hK : untO r l n a = (0, 3) := hK
    simp -dsimp []
    repeat' (first | omega | (simp -dsimp [E35, ri, cellp, ints, hK]) | (refine Also.intro ?_ fun _ => ?_) | (refine Hold.intro fun _ => ?_) | (refine And.intro ?_ ?_))
  have hBg : Beg (own l n ++ [⟨n, a, a + ((j + 1 : Nat) : Int)⟩]) := ⟨by have := own_len l n; simp; omega, fun x hx => by
    rcases List.mem_append.1 hx with h | h
    · exact hbeg x (own_mem.1 h).1
    · have := List.mem_singleton.1 h; subst this; simp only; omega⟩
  have hre := reE_dec r (own l n) ⟨n, a, a + ((j + 1 : Nat) : Int)⟩
  simp only at hre
  have hwj : IntKind.wrap .i64 (a + ((j + 1 : Nat) : Int) - 1) = a + (j : Nat) := by rw [wrap_id (by omega) (by omega)]; omega
  have hlt : a < a + ((j + 1 : Nat) : Int) := by omega
  have hU2 : untW srtD r (own l n) n a (j + 1) = if (brkW srtD r (own l n) ⟨n, a, a + (j + 1 : Nat)⟩).isEmpty = true then a + (j + 1 : Nat) else untW srtD r (own l n) n a j := rfl
  generalize hto : a + ((j + 1 : Nat) : Int) = to at *
  generalize hB : brkW srtD r (own l n) ⟨n, a, to⟩ = B at *
  cases B with
  | nil =>
    have hU2 : untW srtD r (own l n) n a (j + 1) = to := hU2
    rw [hU2, if_neg (by omega)] at hK
    simp -dsimp [hlt]
    repeat' (first | omega | (simp -dsimp [E35, ri, cellp, ints, hlt, Ro.row, pplV, bkRow, Du.row, hre, hBg, hB, hK]) | (refine Also.intro ?_ fun _ => ?_) | (refine Hold.intro fun _ => ?_) | (refine And.intro ?_ ?_))
  | cons x xs =>
    rw [if_neg (by simp)] at hU2
    have hne : ((xs.length : Int) + 1 = 0) = False := eq_false (by omega)
    simp -dsimp [hlt]
    repeat' (first | omega | (simp -dsimp [E35, ri, cellp, ints, hlt, Ro.row, pplV, bkRow, Du.row, hre, hBg, hB, hne, hwj]) | (refine Also.intro ?_ fun _ => ?_) | (refine Hold.intro fun _ => ?_) | (refine And.intro ?_ ?_))
    refine ⟨j, tle_chain rfl ?_, HLe.refl _, ⟨by omega, by rw [hU, hU2]⟩, by omega⟩
    simp [okAll, okv]
theorem ok35 : FnOK Try.prog 35 (.pure untS) := pure_fn (E := E35) rfl (.cons ok41 (.cons ok42 (.cons ok38 (.cons ok56 (.cons ok57 .nil))))) (ok := []) (fn := Try.f35) (by kernel_rfl) (by kernel_rfl) (by kernel_rfl) (by kernel_rfl) rfl (fun _ _ => by simp) b35
end Go.Sx
end
section
/- Crew: cabins, guests, loads. No conditions. -/
set_option linter.unusedSimpArgs false
set_option linter.unusedSectionVars false
set_option maxRecDepth 100000
set_option maxHeartbeats 2000000
namespace Go.Sx
open Go.Proofs
attribute [local irreducible] HLe

theorem ri_inj' (a b : Int) (h : ri a = ri b) : a = b := by simpa [ri] using h
def armN (n : Int) : Bool := !withinB n (-1000) 1000
abbrev armS : PSpec := int1S armN
noncomputable abbrev E94 : Env := { P := Try.prog, fn := tbl [(42, .pure withinS)], own := [], key := 9400, nt := 6 }
theorem b94 : PureBody E94 [] Try.f94 armS := by
  refine pb ?_
  rintro n _
  simp -dsimp [Try.f94, E94, armN]
  repeat' (first | omega | (simp -dsimp [E94, ri, cellp, ints, armN]) | (refine Also.intro ?_ fun _ => ?_) | (refine Hold.intro fun _ => ?_) | (refine And.intro ?_ ?_))
theorem ok94 : FnOK Try.prog 94 (.pure armS) := pure_fn (E := E94) rfl (.cons ok42 .nil) (ok := []) (fn := Try.f94) (by kernel_rfl) (by kernel_rfl) (by kernel_rfl) (by kernel_rfl) rfl (fun _ _ => by simp) b94
@[simp] def amsE (d : List Int) : List V := [.sl 1 (d.map ri), .fn 94 []]
theorem amsE_inj (a b : List Int) (h : amsE a = amsE b) : a = b := by
  simp only [amsE, List.cons.injEq, V.sl.injEq, true_and, and_true] at h
  exact mapRow_inj ri_inj' h
theorem amsE_dec (l : List Int) : decC amsE [.sl 1 (l.map ri), .fn 94 []] = l := decC_eq amsE_inj l
noncomputable abbrev amixS : PSpec := mkP amsE (fun d => d.length ≤ 1000000) fun d => .int .i64 (idxZ d armN)
noncomputable abbrev amanS : PSpec := mkP amsE (fun d => d.length ≤ 1000000) fun d => .bool (d.any armN)
noncomputable abbrev E103 : Env := { P := Try.prog, fn := tbl [(94, .pure armS)], own := [], key := 10300, nt := 19 }
theorem b103 : PureBody E103 [] Try.f103 amixS := by
  refine pb ?_
  rintro l hl
  have hl : l.length ≤ 1000000 := hl
  simp -dsimp [Try.f103, E103]
  refine awp_loop [9, 10, 5, 11, 12, 13, 14, 15, 16, 17, 4, 18, 8] (fun k : { k : Nat // k ≤ l.length ∧ ∀ j (h : j < l.length), j < k → armN l[j] = false } => [(8, (true, .int .i64 k.1))]) (fun _ => noH) (fun k => l.length - k.1) ⟨0, by omega, fun _ _ h => by omega⟩ ?_ (HLe.refl _) ?_
  · simp [okAll, okv]
  rintro ⟨k, hk, hall⟩
  by_cases hk1 : k < l.length
  · have hki : (k : Int) < l.length := by omega
    have wk : IntKind.wrap .i64 ((k : Int) + 1) = (k + 1 : Nat) := wrap_id (by omega) (by omega)
    cases hw : armN l[k]
    · simp -dsimp [hki]
      repeat' (first | omega | (simp -dsimp [E103, ri, cellp, ints, hki, hk1, hl, hw, wk, ri]) | (refine Also.intro ?_ fun _ => ?_) | (refine Hold.intro fun _ => ?_) | (refine And.intro ?_ ?_))
      refine ⟨k + 1, tle_chain rfl ?_, HLe.refl _, ⟨by omega, fun j h hj => ?_⟩, by omega⟩
      · simp [okAll, okv]
      · by_cases hjk : j = k
        · subst hjk; exact hw
        · exact hall j h (by omega)
    · have hz := idxZ_at l armN hk1 hw hall
      simp -dsimp [hki]
      repeat' (first | omega | (simp -dsimp [E103, ri, cellp, ints, hki, hk1, hl, hw, wk, hz, ri]) | (refine Also.intro ?_ fun _ => ?_) | (refine Hold.intro fun _ => ?_) | (refine And.intro ?_ ?_))
  · have hkn : ¬ (k : Int) < l.length := by omega
    have hz := idxZ_none l armN (fun j h => hall j h (by omega))
    simp -dsimp [hkn]
    repeat' (first | omega | (simp -dsimp [E103, ri, cellp, ints, hkn, hz]) | (refine Also.intro ?_ fun _ => ?_) | (refine Hold.intro fun _ => ?_) | (refine And.intro ?_ ?_))
theorem ok103 : FnOK Try.prog 103 (.pure amixS) := pure_fn (E := E103) rfl (.cons ok94 .nil) (ok := []) (fn := Try.f103) (by kernel_rfl) (by kernel_rfl) (by kernel_rfl) (by kernel_rfl) rfl (fun _ _ => by simp) b103
noncomputable abbrev E93 : Env := { P := Try.prog, fn := tbl [(103, .pure amixS)], own := [], key := 9300, nt := 9 }
theorem b93 : PureBody E93 [] Try.f93 amanS := by
  refine pb ?_
  rintro l hl
  have hl : l.length ≤ 1000000 := hl
  have hz := idxZ_any l armN
  simp -dsimp [Try.f93, E93]
  repeat' (first | omega | (simp -dsimp [E93, ri, cellp, ints, hl, amsE_dec, hz]) | (refine Also.intro ?_ fun _ => ?_) | (refine Hold.intro fun _ => ?_) | (refine And.intro ?_ ?_))
theorem ok93 : FnOK Try.prog 93 (.pure amanS) := pure_fn (E := E93) rfl (.cons ok103 .nil) (ok := []) (fn := Try.f93) (by kernel_rfl) (by kernel_rfl) (by kernel_rfl) (by kernel_rfl) rfl (fun _ _ => by simp) b93
@[simp] def caE (c : Ca) : List V := [.agg c.row]
theorem caE_inj (a b : Ca) (h : caE a = caE b) : a = b := Ca.row_inj _ _ (by simpa using h)
theorem caE_dec (c : Ca) : decC caE [.agg [.int .i64 c.emp, .int .i64 c.arm, .sl 2 (c.st.map Se.row), .int .i64 c.farm, .int .i64 c.low, .int .i64 c.high]] = c := decC_eq caE_inj c
def armsTo (c : Ca) (k : Nat) : List Int := [c.arm, c.farm, c.low, c.high] ++ (c.st.take k).map Se.arm
theorem armsTo_succ (c : Ca) {k : Nat} {s : Se} (h : c.st[k]? = some s) : armsTo c (k + 1) = armsTo c k ++ [s.arm] := by
  have hk : k < c.st.length := (List.getElem?_eq_some_iff.1 h).1
  unfold armsTo
  rw [take_snoc c.st hk, List.map_append, List.append_assoc, show c.st.getD k default = s by simp [List.getD, h]]; rfl
theorem armsTo_len (c : Ca) {k : Nat} (h : k ≤ c.st.length) : (armsTo c k).length = k + 4 := by simp [armsTo]; omega
theorem ca_ok (c : Ca) : c.ok = (withinB c.emp 1 100000 && decide (c.st.length ≤ 8) && decide (c.low ≤ c.high) && !((armsTo c c.st.length).any armN)) := by
  have e0 : armN = fun n => !armB n := rfl
  have e : (armsTo c c.st.length).any armN = !(armB c.arm && armB c.farm && armB c.low && armB c.high && c.st.all fun s => armB s.arm) := by
    unfold armsTo
    rw [List.take_length, e0, ← List.not_all_eq_any_not]
    simp [List.all_append, List.all_map, Function.comp_def, Bool.and_assoc]
  rw [e, Bool.not_not, Ca.ok, withinB]
  simp only [Bool.and_assoc]
noncomputable abbrev cabS : PSpec := mkP caE (fun c => c.st.length ≤ 900000) fun c => .int .i64 (if c.ok = true then 0 else 102)
noncomputable abbrev E69 : Env := { P := Try.prog, fn := tbl [(42, .pure withinS), (93, .pure amanS)], own := [14], key := 6900, nt := 49 }
theorem b69 : PureBody E69 [] Try.f69 cabS := by
  refine pb ?_
  rintro c hl
  have hl : c.st.length ≤ 900000 := hl
  have hok := ca_ok c
  simp -dsimp [Try.f69, E69, Ca.row]
  repeat' (first | omega | (simp -dsimp [E69, ri, cellp, ints, Ca.row]) | (refine Also.intro ?_ fun _ => ?_) | (refine Hold.intro fun _ => ?_) | (refine And.intro ?_ ?_))
  refine awp_loop [19, 20, 21, 5, 22, 23, 24, 25, 26, 3, 27, 18] (fun k : { k : Nat // k ≤ c.st.length } => [(18, (true, .int .i64 k.1)), (3, (true, .bsl 6914 0 (k.1 + 4)))]) (fun k => hps [(6905, { base := k.1, blks := [] }), (6914, { base := 0, blks := [{ z := 1, els := (armsTo c k.1).map ri, ty := 3 }] }), (6901, { base := 0, blks := [{ z := 6, els := [c.row], ty := 49 }] })] noH) (fun k => c.st.length - k.1) ⟨0, by omega⟩ ?_ ?_ ?_
  · simp [okAll, okv]
  · exact (by (try simp -dsimp only [hpush_noH, hpush_hps, hps_over]); refine hle_hps ?_; simp -dsimp [allK, armsTo, ri, Ca.row]; repeat' (first | (refine And.intro ?_ ?_) | (refine sLe.same ?_ ?_ <;> (simp; done)) | (refine sLe.clear ?_ ?_ <;> (first | (simp; done) | (simp; omega))) | (refine sLe.drop 1 ?_ ?_ ?_ <;> (simp; done))))
  rintro ⟨k, hk⟩
  dsimp only
  have hal := armsTo_len c hk
  by_cases hk1 : k < c.st.length
  · have hki : (k : Int) < c.st.length := by omega
    have wk : IntKind.wrap .i64 ((k : Int) + 1) = (k + 1 : Nat) := wrap_id (by omega) (by omega)
    obtain ⟨s, hs⟩ : ∃ s, c.st[k]? = some s := ⟨_, List.getElem?_eq_getElem hk1⟩
    have hs' : c.st[k] = s := (List.getElem?_eq_some_iff.1 hs).2
    have hsu := armsTo_succ c hs
    simp -dsimp [hki]
    repeat' (first | omega | (simp -dsimp [E69, ri, cellp, ints, hki, hk1, wk, hs, hs', hal, Se.row, Ca.row]) | (refine Also.intro ?_ fun _ => ?_) | (refine Hold.intro fun _ => ?_) | (refine And.intro ?_ ?_))
    refine ⟨k + 1, tle_chain rfl ?_, ?_, by omega, by omega⟩
    · simp [okAll, okv]
    · exact (by (try simp -dsimp only [hpush_noH, hpush_hps, hps_over]); refine hle_hps ?_; simp -dsimp [allK, hsu, ri, Ca.row]; repeat' (first | (refine And.intro ?_ ?_) | (refine sLe.same ?_ ?_ <;> (simp; done)) | (refine sLe.clear ?_ ?_ <;> (first | (simp; done) | (simp; omega))) | (refine sLe.drop 1 ?_ ?_ ?_ <;> (simp; done))))
  · have hkn : ¬ (k : Int) < c.st.length := by omega
    have hke : k = c.st.length := by omega
    subst hke
    generalize hA : armsTo c c.st.length = A at *
    generalize c1 : withinB c.emp 1 100000 = b1 at hok
    generalize c4 : A.any armN = b4 at hok
    simp -dsimp [hkn]
    repeat' (first | omega | (simp -dsimp [E69, ri, cellp, ints, hkn, hal, amsE_dec, c1, c4, Ca.row]) | (refine Also.intro ?_ fun _ => ?_) | (refine Hold.intro fun _ => ?_) | (refine And.intro ?_ ?_))
    · intro h1 h2 h3
      exact ⟨⟨⟨h1, h2⟩, h3⟩, by omega⟩
    · rename_i h
      rw [hok]
      rcases h with ((h | h) | h) | h
      · simp [h]
      · rw [decide_eq_false (by omega : ¬ c.st.length ≤ 8)]; simp
      · rw [decide_eq_false (by omega : ¬ c.low ≤ c.high)]; simp
      · simp [h]
    · rename_i h
      rw [hok, h.1.1.1, h.2, decide_eq_true h.1.2, decide_eq_true (by omega : c.st.length ≤ 8)]; rfl
theorem ok69 : FnOK Try.prog 69 (.pure cabS) := pure_fn (E := E69) rfl (.cons ok42 (.cons ok93 .nil)) (ok := []) (fn := Try.f69) (by kernel_rfl) (by kernel_rfl) (by kernel_rfl) (by kernel_rfl) rfl (fun _ _ => by simp) b69

/-! guests -/
def guN (g : Gu) : Bool := !(withinB g.w 1 500) || !(withinB g.dive 0 2000)
theorem gu_ok (g : Gu) : g.ok = !guN g := by simp [guN, Gu.ok, withinB]
@[simp] def guE (g : Gu) : List V := [.agg g.row]
theorem guE_inj (a b : Gu) (h : guE a = guE b) : a = b := Gu.row_inj _ _ (by simpa using h)
theorem guE_dec (g : Gu) : decC guE [.agg [.int .i64 g.w, .bool g.suit, .int .i64 g.dive, .bool g.able]] = g := decC_eq guE_inj g
noncomputable abbrev guS : PSpec := mkP guE (fun _ => True) fun g => .bool (guN g)
noncomputable abbrev E68 : Env := { P := Try.prog, fn := tbl [(42, .pure withinS), (38, .pure timeS)], own := [], key := 6800, nt := 13 }
theorem b68 : PureBody E68 [] Try.f68 guS := by
  refine pb ?_
  rintro g _
  simp -dsimp [Try.f68, E68, Gu.row, guN]
  repeat' (first | omega | (simp -dsimp [E68, ri, cellp, ints, Gu.row, guN]) | (refine Also.intro ?_ fun _ => ?_) | (refine Hold.intro fun _ => ?_) | (refine And.intro ?_ ?_))
theorem ok68 : FnOK Try.prog 68 (.pure guS) := pure_fn (E := E68) rfl (.cons ok42 (.cons ok38 .nil)) (ok := []) (fn := Try.f68) (by kernel_rfl) (by kernel_rfl) (by kernel_rfl) (by kernel_rfl) rfl (fun _ _ => by simp) b68
@[simp] def gussE (d : List Gu) : List V := [.sl 4 (d.map Gu.row), .fn 68 []]
theorem gussE_inj (a b : List Gu) (h : gussE a = gussE b) : a = b := by
  simp only [gussE, List.cons.injEq, V.sl.injEq, true_and, and_true] at h
  exact mapRow_inj Gu.row_inj h
theorem gussE_dec (l : List Gu) : decC gussE [.sl 4 (l.map Gu.row), .fn 68 []] = l := decC_eq gussE_inj l
noncomputable abbrev gusixS : PSpec := mkP gussE (fun d => d.length ≤ 1000000) fun d => .int .i64 (idxZ d guN)
noncomputable abbrev gusanS : PSpec := mkP gussE (fun d => d.length ≤ 1000000) fun d => .bool (d.any guN)
noncomputable abbrev E92 : Env := { P := Try.prog, fn := tbl [(68, .pure guS)], own := [], key := 9200, nt := 19 }
theorem b92 : PureBody E92 [] Try.f92 gusixS := by
  refine pb ?_
  rintro l hl
  have hl : l.length ≤ 1000000 := hl
  simp -dsimp [Try.f92, E92]
  refine awp_loop [9, 10, 5, 11, 12, 13, 14, 15, 16, 17, 4, 18, 8] (fun k : { k : Nat // k ≤ l.length ∧ ∀ j (h : j < l.length), j < k → guN l[j] = false } => [(8, (true, .int .i64 k.1))]) (fun _ => noH) (fun k => l.length - k.1) ⟨0, by omega, fun _ _ h => by omega⟩ ?_ (HLe.refl _) ?_
  · simp [okAll, okv]
  rintro ⟨k, hk, hall⟩
  by_cases hk1 : k < l.length
  · have hki : (k : Int) < l.length := by omega
    have wk : IntKind.wrap .i64 ((k : Int) + 1) = (k + 1 : Nat) := wrap_id (by omega) (by omega)
    cases hw : guN l[k]
    · simp -dsimp [hki]
      repeat' (first | omega | (simp -dsimp [E92, ri, cellp, ints, hki, hk1, hl, hw, wk, Gu.row, guE_dec]) | (refine Also.intro ?_ fun _ => ?_) | (refine Hold.intro fun _ => ?_) | (refine And.intro ?_ ?_))
      refine ⟨k + 1, tle_chain rfl ?_, HLe.refl _, ⟨by omega, fun j h hj => ?_⟩, by omega⟩
      · simp [okAll, okv]
      · by_cases hjk : j = k
        · subst hjk; exact hw
        · exact hall j h (by omega)
    · have hz := idxZ_at l guN hk1 hw hall
      simp -dsimp [hki]
      repeat' (first | omega | (simp -dsimp [E92, ri, cellp, ints, hki, hk1, hl, hw, wk, hz, Gu.row, guE_dec]) | (refine Also.intro ?_ fun _ => ?_) | (refine Hold.intro fun _ => ?_) | (refine And.intro ?_ ?_))
  · have hkn : ¬ (k : Int) < l.length := by omega
    have hz := idxZ_none l guN (fun j h => hall j h (by omega))
    simp -dsimp [hkn]
    repeat' (first | omega | (simp -dsimp [E92, ri, cellp, ints, hkn, hz]) | (refine Also.intro ?_ fun _ => ?_) | (refine Hold.intro fun _ => ?_) | (refine And.intro ?_ ?_))
theorem ok92 : FnOK Try.prog 92 (.pure gusixS) := pure_fn (E := E92) rfl (.cons ok68 .nil) (ok := []) (fn := Try.f92) (by kernel_rfl) (by kernel_rfl) (by kernel_rfl) (by kernel_rfl) rfl (fun _ _ => by simp) b92
noncomputable abbrev E67 : Env := { P := Try.prog, fn := tbl [(92, .pure gusixS)], own := [], key := 6700, nt := 9 }
theorem b67 : PureBody E67 [] Try.f67 gusanS := by
  refine pb ?_
  rintro l hl
  have hl : l.length ≤ 1000000 := hl
  have hz := idxZ_any l guN
  simp -dsimp [Try.f67, E67]
  repeat' (first | omega | (simp -dsimp [E67, ri, cellp, ints, hl, gussE_dec, hz]) | (refine Also.intro ?_ fun _ => ?_) | (refine Hold.intro fun _ => ?_) | (refine And.intro ?_ ?_))
theorem ok67 : FnOK Try.prog 67 (.pure gusanS) := pure_fn (E := E67) rfl (.cons ok92 .nil) (ok := []) (fn := Try.f67) (by kernel_rfl) (by kernel_rfl) (by kernel_rfl) (by kernel_rfl) rfl (fun _ _ => by simp) b67
theorem gue_of (l : List Gu) (room : Int) : gueE l room = if room < l.length then 2 else if (l.any guN) = true then 103 else 0 := by
  have e : l.all Gu.ok = !(l.any guN) := by
    rw [List.not_any_eq_all_not]; congr 1; funext g; exact gu_ok g
  unfold gueE
  rw [e]
  cases l.any guN <;> rfl
@[simp] def grE (d : List Gu × Int) : List V := [.sl 4 (d.1.map Gu.row), .int .i64 d.2]
theorem grE_inj (a b : List Gu × Int) (h : grE a = grE b) : a = b := by
  obtain ⟨a1, a2⟩ := a; obtain ⟨b1, b2⟩ := b
  simp only [grE, List.cons.injEq, V.sl.injEq, V.int.injEq, true_and, and_true] at h
  rw [mapRow_inj Gu.row_inj h.1, h.2]
theorem grE_dec (l : List Gu) (n : Int) : decC grE [.sl 4 (l.map Gu.row), .int .i64 n] = (l, n) := decC_eq grE_inj (l, n)
noncomputable abbrev grS : PSpec := mkP grE (fun d => d.1.length ≤ 1000000) fun d => .int .i64 (gueE d.1 d.2)
noncomputable abbrev E37 : Env := { P := Try.prog, fn := tbl [(67, .pure gusanS)], own := [], key := 3700, nt := 11 }
theorem b37 : PureBody E37 [] Try.f37 grS := by
  refine pb ?_
  rintro ⟨l, n⟩ hl
  have hl : l.length ≤ 1000000 := hl
  have hg := gue_of l n
  generalize h1 : l.any guN = b at hg
  by_cases hn : n < l.length
  · rw [if_pos hn] at hg
    simp -dsimp [Try.f37, E37]
    repeat' (first | omega | (simp -dsimp [E37, ri, cellp, ints, hl, hn, hg]) | (refine Also.intro ?_ fun _ => ?_) | (refine Hold.intro fun _ => ?_) | (refine And.intro ?_ ?_))
  · rw [if_neg hn] at hg
    have hn' : (n < (l.length : Int)) = False := eq_false hn
    cases b
    · simp -dsimp [Try.f37, E37]
      repeat' (first | omega | (simp -dsimp [E37, ri, cellp, ints, hl, hn', hg, gussE_dec, h1]) | (refine Also.intro ?_ fun _ => ?_) | (refine Hold.intro fun _ => ?_) | (refine And.intro ?_ ?_))
    · simp -dsimp [Try.f37, E37]
      repeat' (first | omega | (simp -dsimp [E37, ri, cellp, ints, hl, hn', hg, gussE_dec, h1]) | (refine Also.intro ?_ fun _ => ?_) | (refine Hold.intro fun _ => ?_) | (refine And.intro ?_ ?_))
theorem ok37 : FnOK Try.prog 37 (.pure grS) := pure_fn (E := E37) rfl (.cons ok67 .nil) (ok := []) (fn := Try.f37) (by kernel_rfl) (by kernel_rfl) (by kernel_rfl) (by kernel_rfl) rfl (fun _ _ => by simp) b37

/-! spans -/
noncomputable abbrev E95 : Env := { P := Try.prog, fn := tbl [], own := [], key := 9500, nt := 15 }
theorem b95 : PureBody E95 [] Try.f95 withinS := by
  refine pb ?_
  rintro ⟨n, a, b⟩ _
  simp -dsimp [Try.f95, E95, withinB]
  repeat' (first | omega | (simp -dsimp [E95, ri, cellp, ints, *]) | (refine Also.intro ?_ fun _ => ?_) | (refine Hold.intro fun _ => ?_) | (refine And.intro ?_ ?_))
theorem ok95 : FnOK Try.prog 95 (.pure withinS) := pure_fn (E := E95) rfl LOK.nil (ok := []) (fn := Try.f95) (by kernel_rfl) (by kernel_rfl) (by kernel_rfl) (by kernel_rfl) rfl (fun _ _ => by simp) b95
def spN (f : Sp) : Bool := !(withinB f.lo (-1000000) f.hi && decide (f.hi ≤ 1000000))
@[simp] def spE (f : Sp) : List V := [.agg f.row]
theorem spE_inj (a b : Sp) (h : spE a = spE b) : a = b := Sp.row_inj _ _ (by simpa using h)
theorem spE_dec (f : Sp) : decC spE [.agg [.int .i64 f.lo, .int .i64 f.hi]] = f := decC_eq spE_inj f
noncomputable abbrev spvS : PSpec := mkP spE (fun _ => True) fun f => .bool (!spN f)
noncomputable abbrev spnS : PSpec := mkP spE (fun _ => True) fun f => .bool (spN f)
noncomputable abbrev E106 : Env := { P := Try.prog, fn := tbl [(95, .pure withinS)], own := [], key := 10600, nt := 13 }
theorem b106 : PureBody E106 [] Try.f106 spvS := by
  refine pb ?_
  rintro f _
  simp -dsimp [Try.f106, E106, Sp.row, spN]
  repeat' (first | omega | (simp -dsimp [E106, ri, cellp, ints, Sp.row, spN]) | (refine Also.intro ?_ fun _ => ?_) | (refine Hold.intro fun _ => ?_) | (refine And.intro ?_ ?_))
theorem ok106 : FnOK Try.prog 106 (.pure spvS) := pure_fn (E := E106) rfl (.cons ok95 .nil) (ok := []) (fn := Try.f106) (by kernel_rfl) (by kernel_rfl) (by kernel_rfl) (by kernel_rfl) rfl (fun _ _ => by simp) b106
noncomputable abbrev E105 : Env := { P := Try.prog, fn := tbl [(106, .pure spvS)], own := [], key := 10500, nt := 6 }
theorem b105 : PureBody E105 [] Try.f105 spnS := by
  refine pb ?_
  rintro f _
  simp -dsimp [Try.f105, E105, Sp.row]
  repeat' (first | omega | (simp -dsimp [E105, ri, cellp, ints, Sp.row, spE_dec]) | (refine Also.intro ?_ fun _ => ?_) | (refine Hold.intro fun _ => ?_) | (refine And.intro ?_ ?_))
theorem ok105 : FnOK Try.prog 105 (.pure spnS) := pure_fn (E := E105) rfl (.cons ok106 .nil) (ok := []) (fn := Try.f105) (by kernel_rfl) (by kernel_rfl) (by kernel_rfl) (by kernel_rfl) rfl (fun _ _ => by simp) b105
@[simp] def spssE (d : List Sp) : List V := [.sl 2 (d.map Sp.row), .fn 105 []]
theorem spssE_inj (a b : List Sp) (h : spssE a = spssE b) : a = b := by
  simp only [spssE, List.cons.injEq, V.sl.injEq, true_and, and_true] at h
  exact mapRow_inj Sp.row_inj h
theorem spssE_dec (l : List Sp) : decC spssE [.sl 2 (l.map Sp.row), .fn 105 []] = l := decC_eq spssE_inj l
noncomputable abbrev spsixS : PSpec := mkP spssE (fun d => d.length ≤ 1000000) fun d => .int .i64 (idxZ d spN)
noncomputable abbrev spsanS : PSpec := mkP spssE (fun d => d.length ≤ 1000000) fun d => .bool (d.any spN)
noncomputable abbrev E110 : Env := { P := Try.prog, fn := tbl [(105, .pure spnS)], own := [], key := 11000, nt := 19 }
theorem b110 : PureBody E110 [] Try.f110 spsixS := by
  refine pb ?_
  rintro l hl
  have hl : l.length ≤ 1000000 := hl
  simp -dsimp [Try.f110, E110]
  refine awp_loop [9, 10, 5, 11, 12, 13, 14, 15, 16, 17, 4, 18, 8] (fun k : { k : Nat // k ≤ l.length ∧ ∀ j (h : j < l.length), j < k → spN l[j] = false } => [(8, (true, .int .i64 k.1))]) (fun _ => noH) (fun k => l.length - k.1) ⟨0, by omega, fun _ _ h => by omega⟩ ?_ (HLe.refl _) ?_
  · simp [okAll, okv]
  rintro ⟨k, hk, hall⟩
  by_cases hk1 : k < l.length
  · have hki : (k : Int) < l.length := by omega
    have wk : IntKind.wrap .i64 ((k : Int) + 1) = (k + 1 : Nat) := wrap_id (by omega) (by omega)
    cases hw : spN l[k]
    · simp -dsimp [hki]
      repeat' (first | omega | (simp -dsimp [E110, ri, cellp, ints, hki, hk1, hl, hw, wk, Sp.row, spE_dec]) | (refine Also.intro ?_ fun _ => ?_) | (refine Hold.intro fun _ => ?_) | (refine And.intro ?_ ?_))
      refine ⟨k + 1, tle_chain rfl ?_, HLe.refl _, ⟨by omega, fun j h hj => ?_⟩, by omega⟩
      · simp [okAll, okv]
      · by_cases hjk : j = k
        · subst hjk; exact hw
        · exact hall j h (by omega)
    · have hz := idxZ_at l spN hk1 hw hall
      simp -dsimp [hki]
      repeat' (first | omega | (simp -dsimp [E110, ri, cellp, ints, hki, hk1, hl, hw, wk, hz, Sp.row, spE_dec]) | (refine Also.intro ?_ fun _ => ?_) | (refine Hold.intro fun _ => ?_) | (refine And.intro ?_ ?_))
  · have hkn : ¬ (k : Int) < l.length := by omega
    have hz := idxZ_none l spN (fun j h => hall j h (by omega))
    simp -dsimp [hkn]
    repeat' (first | omega | (simp -dsimp [E110, ri, cellp, ints, hkn, hz]) | (refine Also.intro ?_ fun _ => ?_) | (refine Hold.intro fun _ => ?_) | (refine And.intro ?_ ?_))
theorem ok110 : FnOK Try.prog 110 (.pure spsixS) := pure_fn (E := E110) rfl (.cons ok105 .nil) (ok := []) (fn := Try.f110) (by kernel_rfl) (by kernel_rfl) (by kernel_rfl) (by kernel_rfl) rfl (fun _ _ => by simp) b110
noncomputable abbrev E104 : Env := { P := Try.prog, fn := tbl [(110, .pure spsixS)], own := [], key := 10400, nt := 9 }
theorem b104 : PureBody E104 [] Try.f104 spsanS := by
  refine pb ?_
  rintro l hl
  have hl : l.length ≤ 1000000 := hl
  have hz := idxZ_any l spN
  simp -dsimp [Try.f104, E104]
  repeat' (first | omega | (simp -dsimp [E104, ri, cellp, ints, hl, spssE_dec, hz]) | (refine Also.intro ?_ fun _ => ?_) | (refine Hold.intro fun _ => ?_) | (refine And.intro ?_ ?_))
theorem ok104 : FnOK Try.prog 104 (.pure spsanS) := pure_fn (E := E104) rfl (.cons ok110 .nil) (ok := []) (fn := Try.f104) (by kernel_rfl) (by kernel_rfl) (by kernel_rfl) (by kernel_rfl) rfl (fun _ _ => by simp) b104
@[simp] def slE (d : List Sp) : List V := [.sl 2 (d.map Sp.row)]
theorem slE_inj (a b : List Sp) (h : slE a = slE b) : a = b := by
  simp only [slE, List.cons.injEq, V.sl.injEq, true_and, and_true] at h
  exact mapRow_inj Sp.row_inj h
theorem slE_dec (l : List Sp) : decC slE [.sl 2 (l.map Sp.row)] = l := decC_eq slE_inj l
theorem slE_dec1 (f : Sp) : decC slE [.sl 2 [[.int .i64 f.lo, .int .i64 f.hi]]] = [f] := decC_eq slE_inj [f]
noncomputable abbrev spdS : PSpec := mkP slE (fun d => d.length ≤ 1000000) fun d => .int .i64 (if d.any spN = true then 10 else 0)
noncomputable abbrev E96 : Env := { P := Try.prog, fn := tbl [(104, .pure spsanS)], own := [], key := 9600, nt := 5 }
theorem b96 : PureBody E96 [] Try.f96 spdS := by
  refine pb ?_
  rintro l hl
  have hl : l.length ≤ 1000000 := hl
  generalize h1 : l.any spN = b
  cases b
  · simp -dsimp [Try.f96, E96]
    repeat' (first | omega | (simp -dsimp [E96, ri, cellp, ints, hl, h1, spssE_dec]) | (refine Also.intro ?_ fun _ => ?_) | (refine Hold.intro fun _ => ?_) | (refine And.intro ?_ ?_))
  · simp -dsimp [Try.f96, E96]
    repeat' (first | omega | (simp -dsimp [E96, ri, cellp, ints, hl, h1, spssE_dec]) | (refine Also.intro ?_ fun _ => ?_) | (refine Hold.intro fun _ => ?_) | (refine And.intro ?_ ?_))
theorem ok96 : FnOK Try.prog 96 (.pure spdS) := pure_fn (E := E96) rfl (.cons ok104 .nil) (ok := []) (fn := Try.f96) (by kernel_rfl) (by kernel_rfl) (by kernel_rfl) (by kernel_rfl) rfl (fun _ _ => by simp) b96
noncomputable abbrev boxS : PSpec := mkP slE (fun d => d.length ≤ 1000000) fun d => .int .i64 (if withinB d.length 1 3 = true ∧ d.any spN = false then 0 else 10)
noncomputable abbrev E70 : Env := { P := Try.prog, fn := tbl [(95, .pure withinS), (96, .pure spdS)], own := [], key := 7000, nt := 9 }
theorem b70 : PureBody E70 [] Try.f70 boxS := by
  refine pb ?_
  rintro l hl
  have hl : l.length ≤ 1000000 := hl
  generalize h1 : l.any spN = b
  generalize h2 : withinB l.length 1 3 = c
  cases b <;> cases c
  all_goals
    simp -dsimp [Try.f70, E70]
    repeat' (first | omega | (simp -dsimp [E70, ri, cellp, ints, hl, h1, h2, slE_dec]) | (refine Also.intro ?_ fun _ => ?_) | (refine Hold.intro fun _ => ?_) | (refine And.intro ?_ ?_))
theorem ok70 : FnOK Try.prog 70 (.pure boxS) := pure_fn (E := E70) rfl (.cons ok95 (.cons ok96 .nil)) (ok := []) (fn := Try.f70) (by kernel_rfl) (by kernel_rfl) (by kernel_rfl) (by kernel_rfl) rfl (fun _ _ => by simp) b70

/-! a cabin, guests and fuel -/
@[simp] def lodE3 (d : Ca × List Gu × Sp) : List V := [.agg d.1.row, .sl 4 (d.2.1.map Gu.row), .agg d.2.2.row]
theorem lodE3_inj (a b : Ca × List Gu × Sp) (h : lodE3 a = lodE3 b) : a = b := by
  obtain ⟨a1, a2, a3⟩ := a; obtain ⟨b1, b2, b3⟩ := b
  simp only [lodE3, List.cons.injEq, V.sl.injEq, V.agg.injEq, true_and, and_true] at h
  rw [Ca.row_inj _ _ h.1, mapRow_inj Gu.row_inj h.2.1, Sp.row_inj _ _ h.2.2]
theorem lodE3_dec (c : Ca) (l : List Gu) (f : Sp) : decC lodE3 [.agg [.int .i64 c.emp, .int .i64 c.arm, .sl 2 (c.st.map Se.row), .int .i64 c.farm, .int .i64 c.low, .int .i64 c.high], .sl 4 (l.map Gu.row), .agg [.int .i64 f.lo, .int .i64 f.hi]] = (c, l, f) := decC_eq lodE3_inj (c, l, f)
structure LoP (d : Ca × List Gu × Sp) : Prop where
  c : d.1.st.length ≤ 900000
  l : d.2.1.length ≤ 1000000
noncomputable abbrev lodS : PSpec := mkP lodE3 LoP fun d => .int .i64 (lodE d.1 d.2.1 d.2.2)
theorem spn_of (f : Sp) : spnE f = if spN f = true ∨ f.lo < 0 ∨ 100000 < f.hi then 10 else 0 := by
  unfold spnE spN withinB
  by_cases h : -1000000 ≤ f.lo ∧ f.lo ≤ f.hi ∧ f.hi ≤ 1000000 ∧ 0 ≤ f.lo ∧ f.hi ≤ 100000
  · rw [if_pos h, if_neg]; simp; omega
  · rw [if_neg h, if_pos]; simp; omega
noncomputable abbrev E45 : Env := { P := Try.prog, fn := tbl [(69, .pure cabS), (37, .pure grS), (70, .pure boxS)], own := [], key := 4500, nt := 36 }
theorem b45 : PureBody E45 [] Try.f45 lodS := by
  refine pb ?_
  rintro ⟨c, l, f⟩ ⟨hc, hl⟩
  simp only at hc hl
  have hK : lodE c l f = if c.ok = true then (if gueE l c.st.length = 0 then spnE f else gueE l c.st.length) else 102 := rfl
  have hS := spn_of f
  by_cases h1 : c.ok = true
  · rw [if_pos h1] at hK
    by_cases h2 : gueE l c.st.length = 0
    · rw [if_pos h2] at hK
      rw [hS] at hK
      generalize h3 : spN f = b at hK
      cases b
      · simp -dsimp [Try.f45, E45, Sp.row, Ca.row]
        repeat' (first | omega | (simp -dsimp [E45, ri, cellp, ints, Sp.row, Ca.row, caE_dec, grE_dec, slE_dec1, hc, hl, h1, h2, h3]) | (refine Also.intro ?_ fun _ => ?_) | (refine Hold.intro fun _ => ?_) | (refine And.intro ?_ ?_))
        · rename_i h
          rcases h with (h | h) | h
          · exact absurd h (by decide)
          · rw [hK, if_pos (.inr (.inl h))]
          · rw [hK, if_pos (.inr (.inr h))]
        · rename_i h
          rw [hK, if_neg (by rintro (h' | h' | h') <;> first | (cases h'; done) | omega)]
      · simp -dsimp [Try.f45, E45, Sp.row, Ca.row]
        repeat' (first | omega | (simp -dsimp [E45, ri, cellp, ints, Sp.row, Ca.row, caE_dec, grE_dec, slE_dec1, hc, hl, h1, h2, h3, hK]) | (refine Also.intro ?_ fun _ => ?_) | (refine Hold.intro fun _ => ?_) | (refine And.intro ?_ ?_))
    · rw [if_neg h2] at hK
      simp -dsimp [Try.f45, E45, Sp.row, Ca.row]
      repeat' (first | omega | (simp -dsimp [E45, ri, cellp, ints, Sp.row, Ca.row, caE_dec, grE_dec, hc, hl, h1, h2, hK]) | (refine Also.intro ?_ fun _ => ?_) | (refine Hold.intro fun _ => ?_) | (refine And.intro ?_ ?_))
  · rw [if_neg h1] at hK
    simp -dsimp [Try.f45, E45, Sp.row, Ca.row]
    repeat' (first | omega | (simp -dsimp [E45, ri, cellp, ints, Sp.row, Ca.row, caE_dec, hc, hl, h1, hK]) | (refine Also.intro ?_ fun _ => ?_) | (refine Hold.intro fun _ => ?_) | (refine And.intro ?_ ?_))
theorem ok45 : FnOK Try.prog 45 (.pure lodS) := pure_fn (E := E45) rfl (.cons ok69 (.cons ok37 (.cons ok70 .nil))) (ok := []) (fn := Try.f45) (by kernel_rfl) (by kernel_rfl) (by kernel_rfl) (by kernel_rfl) rfl (fun _ _ => by simp) b45
end Go.Sx
end
