/- A part of a proof; no conditions. -/
import Derived.Test.YtnpdjaikmdagmaaP15
import Derived.Test.YtnpdjaikmdagmaaP11
set_option linter.unusedSimpArgs false
set_option linter.unusedVariables false
set_option linter.unusedSectionVars false
section
/- Crew: what is right beside duties; calls; why somebody may not fly. No conditions. -/
set_option linter.unusedSimpArgs false
set_option linter.unusedSectionVars false
set_option maxRecDepth 100000
set_option maxHeartbeats 2000000
namespace Go.Sx
open Go.Proofs
attribute [local irreducible] HLe

@[simp] def ckE (d : Ro × List Du × Bool) : List V := [.agg d.1.row, .sl 3 (d.2.1.map Du.row), .bool d.2.2]
theorem ckE_inj (a b : Ro × List Du × Bool) (h : ckE a = ckE b) : a = b := by
  obtain ⟨a1, a2, a3⟩ := a; obtain ⟨b1, b2, b3⟩ := b
  simp only [ckE, List.cons.injEq, V.agg.injEq, V.sl.injEq, V.bool.injEq, true_and, and_true] at h
  rw [Ro.row_inj _ _ h.1, mapRow_inj Du.row_inj h.2.1, h.2.2]
theorem ckE_dec (r : Ro) (l : List Du) (b : Bool) : decC ckE [.agg [.sl 3 (r.ppl.map Pn.row), .int .i64 r.lng, .int .i64 r.rst, .int .i64 r.win, .int .i64 r.tot, .int .i64 r.rcn], .sl 3 (l.map Du.row), .bool b] = (r, l, b) := decC_eq ckE_inj (r, l, b)
noncomputable abbrev ckS : PSpec := mkP ckE (fun d => ChP (d.1, d.2.1)) fun d => .int .i64 (chk2W srtD d.1 d.2.1 d.2.2)
noncomputable abbrev E41 : Env := { P := Try.prog, fn := tbl [(26, .pure chS)], own := [], key := 4100, nt := 22 }
theorem b41 : PureBody E41 [] Try.f41 ckS := by
  refine pb ?_
  rintro ⟨r, l, b⟩ hC
  have hC : ChP (r, l) := hC
  have h2 : chk2W srtD r l b = if (chkEW srtD r l).2 = 0 then (if b = true then 0 else 1) else (chkEW srtD r l).2 := rfl
  rcases hK : chkEW srtD r l with ⟨i, e⟩
  rw [hK] at h2
  dsimp only at h2
  by_cases he : e = 0
  · subst he
    rw [if_pos rfl] at h2
    cases b
    · simp -dsimp [Try.f41, E41, Ro.row, pplV]
      repeat' (first | omega | (simp -dsimp [E41, ri, cellp, ints, Ro.row, pplV, chE_dec, hC, hK, h2]) | (refine Also.intro ?_ fun _ => ?_) | (refine Hold.intro fun _ => ?_) | (refine And.intro ?_ ?_))
    · simp -dsimp [Try.f41, E41, Ro.row, pplV]
      repeat' (first | omega | (simp -dsimp [E41, ri, cellp, ints, Ro.row, pplV, chE_dec, hC, hK, h2]) | (refine Also.intro ?_ fun _ => ?_) | (refine Hold.intro fun _ => ?_) | (refine And.intro ?_ ?_))
  · rw [if_neg he] at h2
    have he' : ((e : Int) = 0) = False := eq_false he
    simp -dsimp [Try.f41, E41, Ro.row, pplV]
    repeat' (first | omega | (simp -dsimp [E41, ri, cellp, ints, Ro.row, pplV, chE_dec, hC, hK, h2, he']) | (refine Also.intro ?_ fun _ => ?_) | (refine Hold.intro fun _ => ?_) | (refine And.intro ?_ ?_))
theorem ok41 : FnOK Try.prog 41 (.pure ckS) := pure_fn (E := E41) rfl (.cons ok26 .nil) (ok := []) (fn := Try.f41) (by kernel_rfl) (by kernel_rfl) (by kernel_rfl) (by kernel_rfl) rfl (fun _ _ => by simp) b41
@[simp] def clE (c : Cl) : List V := [.agg c.row]
theorem clE_inj (a b : Cl) (h : clE a = clE b) : a = b := Cl.row_inj _ _ (by simpa using h)
theorem clE_dec (c : Cl) : decC clE [.agg [.int .i64 c.a, .int .i64 c.b, .int .i64 c.craft, .bool c.water]] = c := decC_eq clE_inj c
noncomputable abbrev callS : PSpec := mkP clE (fun _ => True) fun c => .bool (callW c)
theorem callW_eq (c : Cl) : callW c = (strW c.a c.b && withinB c.craft 0 7) := rfl
noncomputable abbrev E43 : Env := { P := Try.prog, fn := tbl [(55, .pure strS), (42, .pure withinS)], own := [], key := 4300, nt := 13 }
theorem b43 : PureBody E43 [] Try.f43 callS := by
  refine pb ?_
  rintro ⟨a, b, k, w⟩ _
  simp -dsimp [Try.f43, E43, callW_eq, Cl.row]
theorem ok43 : FnOK Try.prog 43 (.pure callS) := pure_fn (E := E43) rfl (.cons ok55 (.cons ok42 .nil)) (ok := []) (fn := Try.f43) (by kernel_rfl) (by kernel_rfl) (by kernel_rfl) (by kernel_rfl) rfl (fun _ _ => by simp) b43

/-! why -/
@[simp] def whE (d : Ro × List Du × Int × Cl) : List V := [.agg d.1.row, .sl 3 (d.2.1.map Du.row), .int .i64 d.2.2.1, .agg d.2.2.2.row]
theorem whE_inj (a b : Ro × List Du × Int × Cl) (h : whE a = whE b) : a = b := by
  obtain ⟨a1, a2, a3, a4⟩ := a; obtain ⟨b1, b2, b3, b4⟩ := b
  simp only [whE, List.cons.injEq, V.agg.injEq, V.sl.injEq, V.int.injEq, true_and, and_true] at h
  rw [Ro.row_inj _ _ h.1, mapRow_inj Du.row_inj h.2.1, h.2.2.1, Cl.row_inj _ _ h.2.2.2]
theorem whE_dec (r : Ro) (l : List Du) (n : Int) (c : Cl) : decC whE [.agg [.sl 3 (r.ppl.map Pn.row), .int .i64 r.lng, .int .i64 r.rst, .int .i64 r.win, .int .i64 r.tot, .int .i64 r.rcn], .sl 3 (l.map Du.row), .int .i64 n, .agg [.int .i64 c.a, .int .i64 c.b, .int .i64 c.craft, .bool c.water]] = (r, l, n, c) := decC_eq whE_inj (r, l, n, c)
structure WhP (d : Ro × List Du × Int × Cl) : Prop where
  fit : d.1.Fit
  len : d.2.1.length ≤ 60
  beg : ∀ x ∈ d.2.1, 0 ≤ x.a ∧ x.a ≤ 9223372036854775807
  n : 0 ≤ d.2.2.1 ∧ d.2.2.1 ≤ d.1.ppl.length - 1
  call : callW d.2.2.2 = true
theorem WhP.of {r : Ro} {l : List Du} {n : Int} {c : Cl} (h : (chkEW srtD r l).2 = 0) (hn : 0 ≤ n ∧ n ≤ r.ppl.length - 1) (hc : callW c = true) : WhP (r, l, n, c) := by
  unfold chkEW at h
  split at h
  · rename_i h1
    split at h
    · simp at h
    · rename_i h2
      split at h
      · simp at h
      · rename_i h3
        refine ⟨Ro.ok_iff.1 h1, by simpa using h2, ?_, hn, hc⟩
        have hb : badDuW srtD r l = -1 := by
          apply Classical.byContradiction
          intro hne
          obtain ⟨k, _, e, _⟩ := idxZ_some hne
          exact h3 (by rw [badDuW, e]; omega)
        have hall : ∀ j, j < l.length → duOkW srtD r l j = true := by
          intro j hj
          apply Classical.byContradiction
          intro hne
          have : idxZ (List.range l.length) (fun i => !duOkW srtD r l i) ≠ -1 := by
            intro e
            have h0 := idxZ_any (List.range l.length) (fun i => !duOkW srtD r l i)
            rw [e, decide_eq_false (by omega)] at h0
            have := (List.any_eq_false.1 h0.symm) j (List.mem_range.2 hj)
            simp at this; exact hne this
          exact this hb
        have := duOkW_begs (r := r) (Nat.le_refl l.length) hall
        rwa [List.take_length] at this
  · simp at h
noncomputable abbrev whyS : PSpec := mkP whE WhP fun d => ints (whyW srtD d.1 d.2.1 d.2.2.1 d.2.2.2)
theorem bit_of {x k : Int} (hx : 0 ≤ x ∧ x ≤ 255) (hk : 0 ≤ k ∧ k ≤ 7) : bitw .and .i64 (shrV .i64 x k) 1 = if bit1 x k = true then 1 else 0 := by
  obtain ⟨a, rfl⟩ : ∃ a : Nat, x = a := ⟨x.toNat, by omega⟩
  obtain ⟨n, rfl⟩ : ∃ n : Nat, k = n := ⟨k.toNat, by omega⟩
  have h : sr a n < 9223372036854775808 := Nat.lt_of_le_of_lt (Nat.shiftRight_le a n) (by omega)
  rw [bit_shr a n (by omega), show (1 : Int) = ((1 : Nat) : Int) from rfl, bit_and h (by omega), bit_one]
  unfold bit1
  simp only [Int.toNat_natCast]
  split <;> rfl
noncomputable abbrev E44 : Env := { P := Try.prog, fn := tbl [(56, .pure ofS), (57, .pure brkS)], own := [], key := 4400, nt := 50 }
theorem b44 : PureBody E44 [] Try.f44 whyS := by
  refine pb ?_
  rintro ⟨r, l, n, c⟩ ⟨hf, hl, hb, hn, hcall⟩
  simp only at hf hl hb hn hcall
  obtain ⟨k, rfl⟩ : ∃ k : Nat, n = k := ⟨n.toNat, by omega⟩
  have hk : k < r.ppl.length := by omega
  have hki : (k : Int) < r.ppl.length := by omega
  obtain ⟨p, hp⟩ : ∃ p, r.ppl[k]? = some p := ⟨_, List.getElem?_eq_getElem hk⟩
  have hp' : r.ppl[k] = p := (List.getElem?_eq_some_iff.1 hp).2
  have hpa : pnAt r k = p := by simp [pnAt, List.getD, hp]
  have hpo := hf.p p (by rw [← hp']; exact List.getElem_mem hk)
  have hrat : 0 ≤ p.rat ∧ p.rat ≤ 255 := by
    simp only [Pn.ok, Bool.and_eq_true, decide_eq_true_eq] at hpo; exact hpo.1.1
  have hcr : 0 ≤ c.craft ∧ c.craft ≤ 7 := by
    simp only [callW, Bool.and_eq_true, decide_eq_true_eq] at hcall; exact hcall.2
  have hst : strW c.a c.b = true := by
    simp only [callW, Bool.and_eq_true] at hcall; exact hcall.1
  have hbit := bit_of hrat hcr
  have hsb := strW_beg hst
  have hll : l.length ≤ 1000000 := by omega
  have hBg : Beg (own l k ++ [⟨k, c.a, c.b⟩]) := ⟨by have := own_len l k; simp; omega, fun x hx => by
    rcases List.mem_append.1 hx with h | h
    · exact hb x (own_mem.1 h).1
    · exact List.mem_singleton.1 h ▸ hsb⟩
  have hW : whyW srtD r l k c = (if bit1 p.rat c.craft = true then [] else [1]) ++ (if c.water = true ∧ p.dive < c.b then [2] else []) ++ brkW srtD r (own l k) ⟨k, c.a, c.b⟩ := by unfold whyW; rw [hpa]
  have hBl : (brkW srtD r (own l k) ⟨k, c.a, c.b⟩).length ≤ 4 := by
    unfold brkW
    simp only [List.length_append]
    split <;> split <;> split <;> split <;> simp
  generalize hB : brkW srtD r (own l k) ⟨k, c.a, c.b⟩ = B at *
  have hre := reE_dec r (own l k) ⟨k, c.a, c.b⟩
  simp only at hre
  have hd : (decide (p.dive < c.b)) = decide (p.dive < c.b) := rfl
  cases h1 : bit1 p.rat c.craft <;> rw [h1] at hbit hW
  all_goals
    cases h2 : c.water <;> rw [h2] at hW
    · simp at hW
      simp -dsimp [Try.f44, E44, Ro.row, pplV, Cl.row]
      repeat' (first | omega | (simp -dsimp [E44, ri, cellp, ints, Ro.row, pplV, Cl.row, Pn.row, bkRow, hk, hki, hp, hp', hbit, hll, ofE_dec, hre, hBg, hB, hBl, h2, hW]) | (refine Also.intro ?_ fun _ => ?_) | (refine Hold.intro fun _ => ?_) | (refine And.intro ?_ ?_))
    · by_cases h3 : p.dive < c.b
      · simp [h3] at hW
        simp -dsimp [Try.f44, E44, Ro.row, pplV, Cl.row]
        repeat' (first | omega | (simp -dsimp [E44, ri, cellp, ints, Ro.row, pplV, Cl.row, Pn.row, bkRow, hk, hki, hp, hp', hbit, hll, ofE_dec, hre, hBg, hB, hBl, h2, h3, hW]) | (refine Also.intro ?_ fun _ => ?_) | (refine Hold.intro fun _ => ?_) | (refine And.intro ?_ ?_))
      · simp [h3] at hW
        have h3' : (p.dive < c.b) = False := eq_false h3
        simp -dsimp [Try.f44, E44, Ro.row, pplV, Cl.row]
        repeat' (first | omega | (simp -dsimp [E44, ri, cellp, ints, Ro.row, pplV, Cl.row, Pn.row, bkRow, hk, hki, hp, hp', hbit, hll, ofE_dec, hre, hBg, hB, hBl, h2, h3', hW]) | (refine Also.intro ?_ fun _ => ?_) | (refine Hold.intro fun _ => ?_) | (refine And.intro ?_ ?_))
theorem ok44 : FnOK Try.prog 44 (.pure whyS) := pure_fn (E := E44) rfl (.cons ok56 (.cons ok57 .nil)) (ok := []) (fn := Try.f44) (by kernel_rfl) (by kernel_rfl) (by kernel_rfl) (by kernel_rfl) rfl (fun _ _ => by simp) b44
end Go.Sx
end
section
/- Crew: Why, Until. No conditions. -/
set_option linter.unusedSimpArgs false
set_option linter.unusedSectionVars false
set_option maxRecDepth 100000
set_option maxHeartbeats 2000000
namespace Go.Sx
open Go.Proofs
attribute [local irreducible] HLe

noncomputable def whyO (r : Ro) (l : List Du) (n : Int) (c : Cl) : List Int × Int :=
  if chk2W srtD r l (withinB n 0 (r.ppl.length - 1) && callW c) = 0 then (whyW srtD r l n c, 0) else ([], chk2W srtD r l (withinB n 0 (r.ppl.length - 1) && callW c))
structure WyP (d : Ro × List Du × Int × Cl) : Prop where
  p : d.1.ppl.length ≤ 1000000
  n : d.2.1.length ≤ 1000000
noncomputable abbrev WhyS : PSpec := mkP whE WyP fun d => .tup [ints (whyO d.1 d.2.1 d.2.2.1 d.2.2.2).1, .int .i64 (whyO d.1 d.2.1 d.2.2.1 d.2.2.2).2]
theorem chk2_zero {r : Ro} {l : List Du} {b : Bool} (h : chk2W srtD r l b = 0) : (chkEW srtD r l).2 = 0 ∧ b = true := by
  unfold chk2W at h
  split at h
  · split at h
    · exact ⟨by assumption, by assumption⟩
    · omega
  · exact absurd h (by assumption)
noncomputable abbrev E16 : Env := { P := Try.prog, fn := tbl [(41, .pure ckS), (42, .pure withinS), (43, .pure callS), (44, .pure whyS)], own := [], key := 1600, nt := 32 }
theorem b16 : PureBody E16 [] Try.f16 WhyS := by
  refine pb ?_
  rintro ⟨r, l, n, c⟩ ⟨hp, hl⟩
  simp only at hp hl
  have hwp : IntKind.wrap .i64 ((r.ppl.length : Int) - 1) = r.ppl.length - 1 := wrap_id (by omega) (by omega)
  have hK : whyO r l n c = if chk2W srtD r l (withinB n 0 (r.ppl.length - 1) && callW c) = 0 then (whyW srtD r l n c, 0) else ([], chk2W srtD r l (withinB n 0 (r.ppl.length - 1) && callW c)) := rfl
  have hCP : ChP (r, l) := ⟨hp, hl⟩
  cases h1 : withinB n 0 (r.ppl.length - 1) <;> rw [h1] at hK
  · generalize he : chk2W srtD r l (false && callW c) = e at hK
    have he1 : chk2W srtD r l false = e := he
    have h0 : ¬ e = 0 := fun h => by have := (chk2_zero (he1.trans h)).2; cases this
    have h0' : (e = 0) = False := eq_false h0
    rw [if_neg h0] at hK
    simp -dsimp [Try.f16, E16, Ro.row, pplV, Cl.row]
    repeat' (first | omega | (simp -dsimp [E16, ri, cellp, ints, Ro.row, pplV, Cl.row, ckE_dec, hCP, hwp, h1, he1, h0', hK]) | (refine Also.intro ?_ fun _ => ?_) | (refine Hold.intro fun _ => ?_) | (refine And.intro ?_ ?_))
  · generalize h2 : callW c = b at hK
    generalize he : chk2W srtD r l (true && b) = e at hK
    have he1 : chk2W srtD r l b = e := he
    by_cases h0 : e = 0
    · subst h0
      rw [if_pos rfl] at hK
      obtain ⟨z1, z2⟩ := chk2_zero he1
      subst z2
      have hn : 0 ≤ n ∧ n ≤ r.ppl.length - 1 := by simpa [withinB] using h1
      have hW := WhP.of z1 hn h2
      simp -dsimp [Try.f16, E16, Ro.row, pplV, Cl.row]
      repeat' (first | omega | (simp -dsimp [E16, ri, cellp, ints, Ro.row, pplV, Cl.row, ckE_dec, clE_dec, whE_dec, hCP, hwp, h1, h2, he1, hW, hK]) | (refine Also.intro ?_ fun _ => ?_) | (refine Hold.intro fun _ => ?_) | (refine And.intro ?_ ?_))
    · rw [if_neg h0] at hK
      have h0' : (e = 0) = False := eq_false h0
      simp -dsimp [Try.f16, E16, Ro.row, pplV, Cl.row]
      repeat' (first | omega | (simp -dsimp [E16, ri, cellp, ints, Ro.row, pplV, Cl.row, ckE_dec, clE_dec, hCP, hwp, h1, h2, he1, h0', hK]) | (refine Also.intro ?_ fun _ => ?_) | (refine Hold.intro fun _ => ?_) | (refine And.intro ?_ ?_))
theorem ok16 : FnOK Try.prog 16 (.pure WhyS) := pure_fn (E := E16) rfl (.cons ok41 (.cons ok42 (.cons ok43 (.cons ok44 .nil)))) (ok := []) (fn := Try.f16) (by kernel_rfl) (by kernel_rfl) (by kernel_rfl) (by kernel_rfl) rfl (fun _ _ => by simp) b16

/-! until -/
@[simp] def utE (d : Ro × List Du × Int × Int) : List V := [.agg d.1.row, .sl 3 (d.2.1.map Du.row), .int .i64 d.2.2.1, .int .i64 d.2.2.2]
theorem utE_inj (a b : Ro × List Du × Int × Int) (h : utE a = utE b) : a = b := by
  obtain ⟨a1, a2, a3, a4⟩ := a; obtain ⟨b1, b2, b3, b4⟩ := b
  simp only [utE, List.cons.injEq, V.agg.injEq, V.sl.injEq, V.int.injEq, true_and, and_true] at h
  rw [Ro.row_inj _ _ h.1, mapRow_inj Du.row_inj h.2.1, h.2.2.1, h.2.2.2]
theorem utE_dec (r : Ro) (l : List Du) (n a : Int) : decC utE [.agg [.sl 3 (r.ppl.map Pn.row), .int .i64 r.lng, .int .i64 r.rst, .int .i64 r.win, .int .i64 r.tot, .int .i64 r.rcn], .sl 3 (l.map Du.row), .int .i64 n, .int .i64 a] = (r, l, n, a) := decC_eq utE_inj (r, l, n, a)
def untN (r : Ro) (a : Int) : Nat := (min (a + r.lng) 2000 - a).toNat
noncomputable def untO (r : Ro) (l : List Du) (n a : Int) : Int × Int :=
  if chk2W srtD r l (withinB n 0 (r.ppl.length - 1) && withinB a 0 2000) = 0 then (if untW srtD r (own l n) n a (untN r a) = 0 then (0, 3) else (untW srtD r (own l n) n a (untN r a), 0)) else (0, chk2W srtD r l (withinB n 0 (r.ppl.length - 1) && withinB a 0 2000))
structure UtP (d : Ro × List Du × Int × Int) : Prop where
  p : d.1.ppl.length ≤ 1000000
  n : d.2.1.length ≤ 1000000
noncomputable abbrev untS : PSpec := mkP utE UtP fun d => .tup [.int .i64 (untO d.1 d.2.1 d.2.2.1 d.2.2.2).1, .int .i64 (untO d.1 d.2.1 d.2.2.1 d.2.2.2).2]
noncomputable abbrev E35 : Env := { P := Try.prog, fn := tbl [(41, .pure ckS), (42, .pure withinS), (38, .pure timeS), (56, .pure ofS), (57, .pure brkS)], own := [], key := 3500, nt := 52 }
theorem b35 : PureBody E35 [] Try.f35 untS := by
  refine pb ?_
  rintro ⟨r, l, n, a⟩ ⟨hp, hl⟩
  simp only at hp hl
  have hwp : IntKind.wrap .i64 ((r.ppl.length : Int) - 1) = r.ppl.length - 1 := wrap_id (by omega) (by omega)
  have hK : untO r l n a = if chk2W srtD r l (withinB n 0 (r.ppl.length - 1) && withinB a 0 2000) = 0 then (if untW srtD r (own l n) n a (untN r a) = 0 then (0, 3) else (untW srtD r (own l n) n a (untN r a), 0)) else (0, chk2W srtD r l (withinB n 0 (r.ppl.length - 1) && withinB a 0 2000)) := rfl
  have hCP : ChP (r, l) := ⟨hp, hl⟩
  cases h1 : withinB n 0 (r.ppl.length - 1) <;> rw [h1] at hK
  · generalize he : chk2W srtD r l (false && withinB a 0 2000) = e at hK
    have he1 : chk2W srtD r l false = e := he
    have h0 : ¬ e = 0 := fun h => by have := (chk2_zero (he1.trans h)).2; cases this
    have h0' : (e = 0) = False := eq_false h0
    rw [if_neg h0] at hK
    simp -dsimp [Try.f35, E35, Ro.row, pplV]
    repeat' (first | omega | (simp -dsimp [E35, ri, cellp, ints, Ro.row, pplV, ckE_dec, hCP, hwp, h1, he1, h0', hK]) | (refine Also.intro ?_ fun _ => ?_) | (refine Hold.intro fun _ => ?_) | (refine And.intro ?_ ?_))
  generalize h2 : withinB a 0 2000 = b at hK
  generalize he : chk2W srtD r l (true && b) = e at hK
  have he1 : chk2W srtD r l b = e := he
  by_cases h0 : e = 0
  case neg =>
    rw [if_neg h0] at hK
    have h0' : (e = 0) = False := eq_false h0
    simp -dsimp [Try.f35, E35, Ro.row, pplV]
    repeat' (first | omega | (simp -dsimp [E35, ri, cellp, ints, Ro.row, pplV, ckE_dec, hCP, hwp, h1, h2, he1, h0', hK]) | (refine Also.intro ?_ fun _ => ?_) | (refine Hold.intro fun _ => ?_) | (refine And.intro ?_ ?_))
  subst h0
  rw [if_pos rfl] at hK
  obtain ⟨z1, z2⟩ := chk2_zero he1
  subst z2
  have hn : 0 ≤ n ∧ n ≤ r.ppl.length - 1 := by simpa [withinB] using h1
  have ha : 0 ≤ a ∧ a ≤ 2000 := by simpa [withinB] using h2
  obtain ⟨hf, hl60, hbeg, _, _⟩ := WhP.of (c := ⟨0, 1, 0, false⟩) z1 hn (by decide)
  simp only at hf hl60 hbeg
  have hlng := hf.lng
  have hw1 : IntKind.wrap .i64 (a + r.lng) = a + r.lng := wrap_id (by omega) (by omega)
  obtain ⟨K, hKn⟩ : ∃ K : Nat, untN r a = K := ⟨_, rfl⟩
  have hKi : (K : Int) = min (a + r.lng) 2000 - a := by rw [← hKn, untN]; omega
  have hmin : (if (2000 : Int) < a + r.lng then 2000 else a + r.lng) = a + K := by
    split <;> omega
  rw [hKn] at hK
  simp -dsimp [Try.f35, E35, Ro.row, pplV]
  repeat' (first | omega | (simp -dsimp [E35, ri, cellp, ints, Ro.row, pplV, ckE_dec, ofE_dec, hCP, hwp, hl, h1, h2, he1, hw1, bkRow]) | (refine Also.intro ?_ fun _ => ?_) | (refine Hold.intro fun _ => ?_) | (refine And.intro ?_ ?_))
  refine awp_loop [38, 39, 40, 43, 44, 45, 46, 47, 48, 49, 50, 51, 8, 9, 41, 42, 12] (fun j : { j : Nat // j ≤ K ∧ untW srtD r (own l n) n a K = untW srtD r (own l n) n a j } => [(12, (true, .int .i64 (a + j.1)))]) (fun _ => hps [(3511, { base := 0, blks := [{ z := 7, els := [bkRow r (own l n)], ty := 102 }] }), (3504, { base := 0, blks := [{ z := 6, els := [r.row], ty := 33 }] })] noH) (fun j => j.1) ⟨K, Nat.le_refl _, rfl⟩ ?_ ?_ ?_
  · simp [okAll, okv, hmin]
  · exact (by (try simp -dsimp only [hpush_noH, hpush_hps, hps_over]); refine hle_hps ?_; simp -dsimp [allK, bkRow, Ro.row, pplV]; repeat' (first | (refine And.intro ?_ ?_) | (refine sLe.same ?_ ?_ <;> (simp; done)) | (refine sLe.clear ?_ ?_ <;> (first | (simp; done) | (simp; omega))) | (refine sLe.drop 1 ?_ ?_ ?_ <;> (simp; done))))
  rintro ⟨j, hj, hU⟩
  dsimp only
  rw [hU] at hK
  rcases j with _ | j
  · have hK : untO r l n a = (0, 3) := hK
    simp -dsimp []
    repeat' (first | omega | (simp -dsimp [E35, ri, cellp, ints, hK]) | (refine Also.intro ?_ fun _ => ?_) | (refine Hold.intro fun _ => ?_) | (refine And.intro ?_ ?_))
  have hBg : Beg (own l n ++ [⟨n, a, a + ((j + 1 : Nat) : Int)⟩]) := ⟨by have := own_len l n; simp; omega, fun x hx => by
    rcases List.mem_append.1 hx with h | h
    · exact hbeg x (own_mem.1 h).1
    · have := List.mem_singleton.1 h; subst this; simp only; omega⟩
  have hre := reE_dec r (own l n) ⟨n, a, a + ((j + 1 : Nat) : Int)⟩
  simp only at hre
  have hwj : IntKind.wrap .i64 (a + ((j + 1 : Nat) : Int) - 1) = a + (j : Nat) := by rw [wrap_id (by omega) (by omega)]; omega
  have hlt : a < a + ((j + 1 : Nat) : Int) := by omega
  have hU2 : untW srtD r (own l n) n a (j + 1) = if (brkW srtD r (own l n) ⟨n, a, a + (j + 1 : Nat)⟩).isEmpty = true then a + (j + 1 : Nat) else untW srtD r (own l n) n a j := rfl
  generalize hto : a + ((j + 1 : Nat) : Int) = to at *
  generalize hB : brkW srtD r (own l n) ⟨n, a, to⟩ = B at *
  cases B with
  | nil =>
    have hU2 : untW srtD r (own l n) n a (j + 1) = to := hU2
    rw [hU2, if_neg (by omega)] at hK
    simp -dsimp [hlt]
    repeat' (first | omega | (simp -dsimp [E35, ri, cellp, ints, hlt, Ro.row, pplV, bkRow, Du.row, hre, hBg, hB, hK]) | (refine Also.intro ?_ fun _ => ?_) | (refine Hold.intro fun _ => ?_) | (refine And.intro ?_ ?_))
  | cons x xs =>
    rw [if_neg (by simp)] at hU2
    have hne : ((xs.length : Int) + 1 = 0) = False := eq_false (by omega)
    simp -dsimp [hlt]
    repeat' (first | omega | (simp -dsimp [E35, ri, cellp, ints, hlt, Ro.row, pplV, bkRow, Du.row, hre, hBg, hB, hne, hwj]) | (refine Also.intro ?_ fun _ => ?_) | (refine Hold.intro fun _ => ?_) | (refine And.intro ?_ ?_))
    refine ⟨j, tle_chain rfl ?_, HLe.refl _, ⟨by omega, by rw [hU, hU2]⟩, by omega⟩
    simp [okAll, okv]
theorem ok35 : FnOK Try.prog 35 (.pure untS) := pure_fn (E := E35) rfl (.cons ok41 (.cons ok42 (.cons ok38 (.cons ok56 (.cons ok57 .nil))))) (ok := []) (fn := Try.f35) (by kernel_rfl) (by kernel_rfl) (by kernel_rfl) (by kernel_rfl) rfl (fun _ _ => by simp) b35
end Go.Sx
end
section
/- Pages: hours by the number of pages that they are on. No conditions. -/
set_option linter.unusedSimpArgs false
set_option linter.unusedSectionVars false
namespace Go.Sx

structure Sp where
  lo : Int
  hi : Int
  deriving DecidableEq, Inhabited
def Sp.row (s : Sp) : List V := [.int .i64 s.lo, .int .i64 s.hi]
theorem Sp.row_inj (a b : Sp) (h : a.row = b.row) : a = b := by
  cases a; cases b; simp [Sp.row] at h; simp [h]
def Sp.has (s : Sp) (h : Int) : Bool := decide (s.lo ≤ h) && decide (h ≤ s.hi)
/-- On how many of the first pages an hour is. -/
def manyTo (pg : List Sp) (h : Int) : Nat → Nat
  | 0 => 0
  | k + 1 => manyTo pg h k + if (pg.getD k default).has h = true then 1 else 0
def many (pg : List Sp) (h : Int) : Nat := manyTo pg h pg.length
theorem manyTo_le (pg : List Sp) (h : Int) : ∀ k, manyTo pg h k ≤ k
  | 0 => Nat.le_refl _
  | k + 1 => by
    have := manyTo_le pg h k
    simp only [manyTo]; split <;> omega
/-- The fewest spans of the hours that are so. -/
def rns (f : Nat → Bool) : Nat → List Sp
  | 0 => []
  | h + 1 => if f h = true then (match (rns f h).getLast? with
      | some s => if s.hi = (h : Int) - 1 then (rns f h).dropLast ++ [⟨s.lo, h⟩] else rns f h ++ [⟨h, h⟩]
      | none => [⟨h, h⟩]) else rns f h
theorem rns_no {f : Nat → Bool} {h : Nat} (hf : f h = false) : rns f (h + 1) = rns f h := by
  simp only [rns, hf]; rfl
theorem rns_nil {f : Nat → Bool} {h : Nat} (hf : f h = true) (hr : rns f h = []) : rns f (h + 1) = [⟨h, h⟩] := by
  simp only [rns, hf, hr]; rfl
theorem rns_more {f : Nat → Bool} {h : Nat} {p : List Sp} {s : Sp} (hf : f h = true) (hr : rns f h = p ++ [s]) (hs : s.hi = (h : Int) - 1) : rns f (h + 1) = p ++ [⟨s.lo, h⟩] := by
  simp [rns, hf, hr, hs]
theorem rns_new {f : Nat → Bool} {h : Nat} {p : List Sp} {s : Sp} (hf : f h = true) (hr : rns f h = p ++ [s]) (hs : ¬ s.hi = (h : Int) - 1) : rns f (h + 1) = p ++ [s] ++ [⟨h, h⟩] := by
  simp [rns, hf, hr, hs]
theorem snoc_cases {α : Type} (l : List α) : l = [] ∨ ∃ p s, l = p ++ [s] := by
  cases h : l.reverse with
  | nil => left; simpa using h
  | cons a r => right; exact ⟨r.reverse, a, by have := congrArg List.reverse h; simpa using this⟩
theorem rns_len (f : Nat → Bool) : ∀ h, (rns f h).length ≤ h
  | 0 => by simp [rns]
  | h + 1 => by
    have ih := rns_len f h
    cases hf : f h
    · rw [rns_no hf]; omega
    · rcases snoc_cases (rns f h) with e | ⟨p, s, e⟩
      · rw [rns_nil hf e]; simp
      · rw [e] at ih
        simp at ih
        by_cases hs : s.hi = (h : Int) - 1
        · rw [rns_more hf e hs]; simp; omega
        · rw [rns_new hf e hs]; simp; omega
theorem rns_congr {f g : Nat → Bool} : ∀ h, (∀ i, i < h → f i = g i) → rns f h = rns g h
  | 0, _ => rfl
  | h + 1, hfg => by simp only [rns, rns_congr h fun i hi => hfg i (by omega), hfg h (by omega)]
/-- By how much the number of pages changes at an hour. -/
def chTo (hrs : Nat) (pg : List Sp) : Nat → List Int
  | 0 => List.replicate (hrs + 1) 0
  | k + 1 => let c := chTo hrs pg k
    let a := (pg.getD k default).lo.toNat
    let b := ((pg.getD k default).hi + 1).toNat
    let c1 := c.set a (c.getD a 0 + 1)
    c1.set b (c1.getD b 0 - 1)
theorem chTo_len (hrs : Nat) (pg : List Sp) : ∀ k, (chTo hrs pg k).length = hrs + 1
  | 0 => by simp [chTo]
  | k + 1 => by simp only [chTo, List.length_set]; exact chTo_len hrs pg k
def psum (c : List Int) : Nat → Int
  | 0 => 0
  | h + 1 => psum c h + c.getD h 0
theorem psum_set (c : List Int) (a : Nat) (x : Int) (ha : a < c.length) : ∀ h, psum (c.set a x) h = psum c h + if a < h then x - c.getD a 0 else 0
  | 0 => by simp [psum]
  | h + 1 => by
    simp only [psum, psum_set c a x ha h]
    by_cases e : a = h
    · subst e
      have : (c.set a x).getD a 0 = x := by simp [List.getD, ha]
      rw [this, if_neg (by omega), if_pos (by omega)]; omega
    · have : (c.set a x).getD h 0 = c.getD h 0 := by simp [List.getD, List.getElem?_set_ne e]
      rw [this]
      by_cases hlt : a < h
      · rw [if_pos hlt, if_pos (by omega)]; omega
      · rw [if_neg hlt, if_neg (by omega)]; omega
theorem psum_zero (n : Nat) : ∀ h, psum (List.replicate n (0 : Int)) h = 0
  | 0 => rfl
  | h + 1 => by
    rw [psum, psum_zero n h]
    simp only [List.getD, List.getElem?_replicate]
    split <;> rfl
theorem psum_many {hrs : Nat} {pg : List Sp} (hp : ∀ p ∈ pg, 0 ≤ p.lo ∧ p.lo ≤ p.hi ∧ p.hi ≤ (hrs : Int) - 1) : ∀ k h, k ≤ pg.length → h < hrs → psum (chTo hrs pg k) (h + 1) = (manyTo pg h k : Nat)
  | 0, h, _, _ => by rw [chTo, psum_zero]; rfl
  | k + 1, h, hk, hh => by
    have ih := psum_many hp k h (by omega) hh
    have hkl : k < pg.length := by omega
    have hb := hp (pg.getD k default) (by simp [List.getD, hkl])
    generalize hP : pg.getD k default = p at *
    have hl := chTo_len hrs pg k
    have e0 : chTo hrs pg (k + 1) = ((chTo hrs pg k).set p.lo.toNat ((chTo hrs pg k).getD p.lo.toNat 0 + 1)).set (p.hi + 1).toNat (((chTo hrs pg k).set p.lo.toNat ((chTo hrs pg k).getD p.lo.toNat 0 + 1)).getD (p.hi + 1).toNat 0 - 1) := by
      simp only [chTo, hP]
    rw [e0, psum_set _ _ _ (by rw [List.length_set]; omega), psum_set _ _ _ (by omega), ih]
    have e1 : manyTo pg h (k + 1) = manyTo pg h k + if p.has h = true then 1 else 0 := by simp only [manyTo, hP]
    rw [e1]
    by_cases h1 : p.lo ≤ (h : Int)
    · rw [if_pos (show p.lo.toNat < h + 1 by omega)]
      by_cases h2 : (h : Int) ≤ p.hi
      · have : p.has h = true := by simp [Sp.has, h1, h2]
        rw [if_pos this, if_neg (show ¬ (p.hi + 1).toNat < h + 1 by omega)]; omega
      · have : ¬ p.has h = true := by simp [Sp.has, h2]
        rw [if_neg this, if_pos (show (p.hi + 1).toNat < h + 1 by omega)]; omega
    · rw [if_neg (show ¬ p.lo.toNat < h + 1 by omega)]
      have : ¬ p.has h = true := by simp [Sp.has, h1]
      rw [if_neg this, if_neg (show ¬ (p.hi + 1).toNat < h + 1 by omega)]; omega
theorem chTo_bd {hrs : Nat} {pg : List Sp} : ∀ (k i : Nat), -(k : Int) ≤ (chTo hrs pg k).getD i 0 ∧ (chTo hrs pg k).getD i 0 ≤ k
  | 0, i => by simp only [chTo, List.getD, List.getElem?_replicate]; split <;> simp
  | k + 1, i => by
    have ih := chTo_bd (hrs := hrs) (pg := pg) k
    have st : ∀ (c : List Int) (a j : Nat) (x : Int), (c.set a x).getD j 0 = x ∨ (c.set a x).getD j 0 = c.getD j 0 ∨ (c.set a x).getD j 0 = 0 := by
      intro c a j x
      simp only [List.getD, List.getElem?_set]
      split
      · split
        · left; rfl
        · right; right; rfl
      · right; left; rfl
    simp only [chTo]
    generalize chTo hrs pg k = c at *
    generalize (pg.getD k default).lo.toNat = a
    generalize ((pg.getD k default).hi + 1).toNat = b
    have iha := ih a
    have ihb := ih b
    have ihi := ih i
    have f1 := fun j => st c a j (c.getD a 0 + 1)
    have g1 := f1 b
    have g2 := f1 i
    rcases st (c.set a (c.getD a 0 + 1)) b i ((c.set a (c.getD a 0 + 1)).getD b 0 - 1) with h | h | h <;> rw [h] <;> omega
end Go.Sx
end
section
/- Crew, plain: cabins, guests, seatings, what they weigh; the first balanced seating. No conditions. -/
set_option linter.unusedSimpArgs false
set_option linter.unusedSectionVars false
namespace Go.Sx

structure Se where
  arm : Int
  ex : Bool
  deriving DecidableEq, Inhabited
def Se.row (s : Se) : List V := [.int .i64 s.arm, .bool s.ex]
theorem Se.row_inj (a b : Se) (h : a.row = b.row) : a = b := by
  cases a; cases b; simp [Se.row] at h; simp [h]
structure Gu where
  w : Int
  suit : Bool
  dive : Int
  able : Bool
  deriving DecidableEq, Inhabited
def Gu.row (g : Gu) : List V := [.int .i64 g.w, .bool g.suit, .int .i64 g.dive, .bool g.able]
theorem Gu.row_inj (a b : Gu) (h : a.row = b.row) : a = b := by
  cases a; cases b; simp [Gu.row] at h; simp [h]
structure Ca where
  emp : Int
  arm : Int
  st : List Se
  farm : Int
  low : Int
  high : Int
  deriving DecidableEq, Inhabited
def Ca.row (c : Ca) : List V := [.int .i64 c.emp, .int .i64 c.arm, .sl 2 (c.st.map Se.row), .int .i64 c.farm, .int .i64 c.low, .int .i64 c.high]
theorem Ca.row_inj (a b : Ca) (h : a.row = b.row) : a = b := by
  cases a; cases b
  simp only [Ca.row, List.cons.injEq, V.sl.injEq, V.int.injEq, true_and, and_true] at h
  obtain ⟨h1, h2, h3, h4, h5, h6⟩ := h
  rw [mapRow_inj Se.row_inj h3, h1, h2, h4, h5, h6]
def gusV (l : List Gu) : V := .sl 4 (l.map Gu.row)

def armB (n : Int) : Bool := decide (-1000 ≤ n ∧ n ≤ 1000)
def Ca.ok (c : Ca) : Bool := decide (1 ≤ c.emp ∧ c.emp ≤ 100000) && decide (c.st.length ≤ 8) && decide (c.low ≤ c.high) && armB c.arm && armB c.farm && armB c.low && armB c.high && c.st.all fun s => armB s.arm
structure Ca.Fit (c : Ca) : Prop where
  emp : 1 ≤ c.emp ∧ c.emp ≤ 100000
  n : c.st.length ≤ 8
  lh : c.low ≤ c.high
  arm : -1000 ≤ c.arm ∧ c.arm ≤ 1000
  farm : -1000 ≤ c.farm ∧ c.farm ≤ 1000
  low : -1000 ≤ c.low ∧ c.low ≤ 1000
  high : -1000 ≤ c.high ∧ c.high ≤ 1000
  st : ∀ s ∈ c.st, -1000 ≤ s.arm ∧ s.arm ≤ 1000
theorem Ca.ok_iff {c : Ca} : c.ok = true ↔ c.Fit := by
  unfold Ca.ok armB
  simp only [Bool.and_eq_true, decide_eq_true_eq, List.all_eq_true]
  constructor
  · rintro ⟨⟨⟨⟨⟨⟨⟨h1, h2⟩, h3⟩, h4⟩, h5⟩, h6⟩, h7⟩, h8⟩
    exact ⟨h1, h2, h3, h4, h5, h6, h7, h8⟩
  · rintro ⟨h1, h2, h3, h4, h5, h6, h7, h8⟩
    exact ⟨⟨⟨⟨⟨⟨⟨h1, h2⟩, h3⟩, h4⟩, h5⟩, h6⟩, h7⟩, h8⟩
def Gu.ok (g : Gu) : Bool := decide (1 ≤ g.w ∧ g.w ≤ 500) && decide (0 ≤ g.dive ∧ g.dive ≤ 2000)
def gueE (l : List Gu) (room : Int) : Int := if room < l.length then 2 else if l.all Gu.ok = true then 0 else 103
def spnE (f : Sp) : Int := if -1000000 ≤ f.lo ∧ f.lo ≤ f.hi ∧ f.hi ≤ 1000000 ∧ 0 ≤ f.lo ∧ f.hi ≤ 100000 then 0 else 10
def lodE (c : Ca) (l : List Gu) (f : Sp) : Int := if c.ok = true then (if gueE l c.st.length = 0 then spnE f else gueE l c.st.length) else 102
structure LFit (c : Ca) (l : List Gu) (f : Sp) : Prop where
  cf : c.Fit
  n : l.length ≤ c.st.length
  gf : ∀ g ∈ l, 1 ≤ g.w ∧ g.w ≤ 500
  ff : 0 ≤ f.lo ∧ f.lo ≤ f.hi ∧ f.hi ≤ 100000
theorem lodE_zero {c : Ca} {l : List Gu} {f : Sp} (h : lodE c l f = 0) : LFit c l f := by
  unfold lodE at h
  split at h
  · rename_i h1
    split at h
    · rename_i h2
      unfold spnE at h
      split at h
      · rename_i h3
        unfold gueE at h2
        split at h2
        · omega
        · rename_i h4
          split at h2
          · rename_i h5
            refine ⟨Ca.ok_iff.1 h1, by omega, fun g hg => ?_, by omega⟩
            have := List.all_eq_true.1 h5 g hg
            simp [Gu.ok] at this; exact this.1
          · omega
      · omega
    · omega
  · omega

/-! weights and moments -/
def guAt (l : List Gu) (i : Nat) : Gu := l.getD i default
def armAt (c : Ca) (s : List Int) (i : Nat) : Int := (c.st.getD (s.getD i 0).toNat default).arm
def wTo (l : List Gu) : Nat → Int
  | 0 => 0
  | k + 1 => wTo l k + (guAt l k).w
def mTo (c : Ca) (l : List Gu) (s : List Int) : Nat → Int
  | 0 => 0
  | k + 1 => mTo c l s k + (guAt l k).w * armAt c s k
def wgt (c : Ca) (l : List Gu) (f : Int) : Int := c.emp + wTo l l.length + f
def mom (c : Ca) (l : List Gu) (s : List Int) (f : Int) : Int := c.emp * c.arm + mTo c l s l.length + f * c.farm
theorem guAt_bd {l : List Gu} (h : ∀ g ∈ l, 1 ≤ g.w ∧ g.w ≤ 500) {k : Nat} (hk : k < l.length) : 1 ≤ (guAt l k).w ∧ (guAt l k).w ≤ 500 := by
  have : guAt l k = l[k] := by simp [guAt, List.getD, hk]
  rw [this]; exact h _ (List.getElem_mem hk)
theorem wTo_bd {l : List Gu} (h : ∀ g ∈ l, 1 ≤ g.w ∧ g.w ≤ 500) : ∀ k, k ≤ l.length → 0 ≤ wTo l k ∧ wTo l k ≤ 500 * k
  | 0, _ => by simp [wTo]
  | k + 1, hk => by
    have ih := wTo_bd h k (by omega)
    have := guAt_bd h (k := k) (by omega)
    rw [wTo]; omega
theorem mul_bd {a b A B : Int} (h1 : 0 ≤ a ∧ a ≤ A) (h2 : -B ≤ b ∧ b ≤ B) : -(A * B) ≤ a * b ∧ a * b ≤ A * B := by
  have hB : 0 ≤ B := by omega
  have e1 : a * b ≤ a * B := Int.mul_le_mul_of_nonneg_left h2.2 h1.1
  have e2 : a * B ≤ A * B := Int.mul_le_mul_of_nonneg_right h1.2 hB
  have e3 : a * -B ≤ a * b := Int.mul_le_mul_of_nonneg_left h2.1 h1.1
  rw [Int.mul_neg] at e3
  omega
theorem armAt_bd {c : Ca} (h : c.Fit) (s : List Int) (i : Nat) : -1000 ≤ armAt c s i ∧ armAt c s i ≤ 1000 := by
  unfold armAt
  generalize (s.getD i 0).toNat = k
  by_cases hk : k < c.st.length
  · have : c.st.getD k default = c.st[k] := by simp [List.getD, hk]
    rw [this]; exact h.st _ (List.getElem_mem hk)
  · have : c.st.getD k default = default := by simp [List.getD, List.getElem?_eq_none (Nat.le_of_not_lt hk)]
    rw [this, show (default : Se).arm = 0 from rfl]; omega
theorem mTo_bd {c : Ca} (hc : c.Fit) {l : List Gu} (h : ∀ g ∈ l, 1 ≤ g.w ∧ g.w ≤ 500) (s : List Int) : ∀ k, k ≤ l.length → -(500000 * (k : Int)) ≤ mTo c l s k ∧ mTo c l s k ≤ 500000 * k
  | 0, _ => by simp [mTo]
  | k + 1, hk => by
    have ih := mTo_bd hc h s k (by omega)
    have h1 := guAt_bd h (k := k) (by omega)
    have h2 := mul_bd (a := (guAt l k).w) (A := 500) (by omega) (armAt_bd hc s k)
    rw [mTo]; omega
/-- Whether the center lies within the limits, with the least and with the most fuel. -/
def ctB (c : Ca) (w m : Int) : Bool := decide (c.low * w ≤ m ∧ m ≤ c.high * w)
def balB (c : Ca) (l : List Gu) (f : Sp) (s : List Int) : Bool := ctB c (wgt c l f.lo) (mom c l s f.lo) && ctB c (wgt c l f.hi) (mom c l s f.hi)
def cenL (c : Ca) (l : List Gu) (f : Sp) (s : List Int) : Sp :=
  ⟨min (mom c l s f.lo / wgt c l f.lo) (mom c l s f.hi / wgt c l f.hi), max (-(-mom c l s f.lo / wgt c l f.lo)) (-(-mom c l s f.hi / wgt c l f.hi))⟩

/-! seatings -/
def sitsB (c : Ca) (g : Gu) (before : List Int) (s : Int) : Bool := decide (0 ≤ s ∧ s ≤ c.st.length - 1) && !before.contains s && (g.able || !(c.st.getD s.toNat default).ex)
def seatOk (c : Ca) (l : List Gu) (s : List Int) (i : Nat) : Bool := sitsB c (guAt l i) (s.take i) (s.getD i 0)
def rightB (c : Ca) (l : List Gu) (s : List Int) : Bool := decide (s.length = l.length) && (List.range l.length).all fun i => seatOk c l s i
/-- The first balanced seating that begins so; the first number is how many guests are left. -/
def sitF (c : Ca) (l : List Gu) (f : Sp) : Nat → List Int → Option (List Int)
  | 0, b => if balB c l f b = true then some b else none
  | m + 1, b => (List.range c.st.length).findSome? fun s : Nat => if sitsB c (guAt l b.length) b s = true then sitF c l f m (b ++ [(s : Int)]) else none
def lexLe (a b : List Int) : Prop := a = b ∨ ∃ i, i < a.length ∧ i < b.length ∧ a.take i = b.take i ∧ a.getD i 0 < b.getD i 0
theorem seatOk_snoc {c : Ca} {l : List Gu} {b : List Int} {s : Int} {i : Nat} (hi : i < b.length) : seatOk c l (b ++ [s]) i = seatOk c l b i := by
  unfold seatOk
  rw [List.take_append_of_le_length (by omega)]
  congr 1
  simp [List.getD, List.getElem?_append_left hi]
theorem sitF_sound {c : Ca} {l : List Gu} {f : Sp} : ∀ (m : Nat) (b a : List Int), b.length + m = l.length → (∀ i, i < b.length → seatOk c l b i = true) → sitF c l f m b = some a → rightB c l a = true ∧ balB c l f a = true ∧ a.take b.length = b
  | 0, b, a, hm, hb, h => by
    rw [sitF] at h
    split at h
    · rename_i h1
      simp only [Option.some.injEq] at h
      subst h
      refine ⟨?_, h1, List.take_length ..⟩
      simp only [rightB, Bool.and_eq_true, decide_eq_true_eq, List.all_eq_true, List.mem_range]
      exact ⟨by omega, fun i hi => hb i (by omega)⟩
    · simp at h
  | m + 1, b, a, hm, hb, h => by
    rw [sitF] at h
    obtain ⟨s, _, h1⟩ := List.exists_of_findSome?_eq_some h
    split at h1
    · rename_i h2
      obtain ⟨k1, k2, k3⟩ := sitF_sound m (b ++ [(s : Int)]) a (by simp; omega) (fun i hi => by
        simp at hi
        by_cases hib : i < b.length
        · rw [seatOk_snoc hib]; exact hb i hib
        · have : i = b.length := by omega
          subst this
          unfold seatOk
          rw [List.take_left' rfl]
          simpa [List.getD] using h2) h1
      refine ⟨k1, k2, ?_⟩
      have := congrArg (List.take b.length) k3
      rw [List.take_take, List.take_left' rfl] at this
      simpa [Nat.min_eq_left] using this
    · simp at h1
theorem findSome_first {α : Type} (g : Nat → Option α) (n t : Nat) (ht : t < n) (hg : (g t).isSome = true) : ∃ s a, s ≤ t ∧ g s = some a ∧ (List.range n).findSome? g = some a ∧ ∀ j, j < s → g j = none := by
  have h1 : ((List.range n).findSome? g).isSome = true := List.findSome?_isSome_iff.2 ⟨t, by simpa using ht, hg⟩
  obtain ⟨a, ha⟩ := Option.isSome_iff_exists.1 h1
  obtain ⟨l1, s, l2, e, hs, hn⟩ := List.findSome?_eq_some_iff.1 ha
  have hlen : l1.length < n := by have := congrArg List.length e; simp at this; omega
  have hls : s = l1.length := by
    have := congrArg (fun l => l[l1.length]?) e
    simp [hlen] at this; omega
  have hall : ∀ j, j < s → g j = none := fun j hj => by
    refine hn j ?_
    have := congrArg (fun l => l[j]?) e
    rw [hls] at hj
    simp only [List.getElem?_range (show j < n by omega), List.getElem?_append_left hj] at this
    exact List.mem_of_getElem? this.symm
  refine ⟨s, a, ?_, hs, ha, hall⟩
  by_cases h : s ≤ t
  · exact h
  · rw [hall t (by omega)] at hg; cases hg
theorem sitF_first {c : Ca} {l : List Gu} {f : Sp} {t : List Int} (ht : rightB c l t = true) (hbal : balB c l f t = true) : ∀ (m : Nat) (b : List Int), b.length + m = l.length → b = t.take b.length → ∃ a, sitF c l f m b = some a ∧ (a = t ∨ ∃ i, b.length ≤ i ∧ i < a.length ∧ a.take i = t.take i ∧ a.getD i 0 < t.getD i 0)
  | 0, b, hm, hb => by
    simp only [rightB, Bool.and_eq_true, decide_eq_true_eq] at ht
    have : b = t := by rw [hb, List.take_of_length_le (by omega)]
    exact ⟨b, by rw [sitF, this, if_pos hbal], .inl this⟩
  | m + 1, b, hm, hb => by
    have ht' := ht
    simp only [rightB, Bool.and_eq_true, decide_eq_true_eq, List.all_eq_true, List.mem_range] at ht'
    have hk := ht'.2 b.length (by omega)
    have hlt : b.length < t.length := by omega
    unfold seatOk at hk
    rw [← hb] at hk
    generalize hs : t.getD b.length 0 = s at hk
    have hs0 : 0 ≤ s ∧ s ≤ c.st.length - 1 := by
      simp [sitsB] at hk; exact hk.1.1
    obtain ⟨q, rfl⟩ : ∃ q : Nat, s = q := ⟨s.toNat, by omega⟩
    have hts : t.take (b.length + 1) = b ++ [(q : Int)] := by
      rw [take_snoc t hlt, ← hb]
      congr 2
    obtain ⟨a0, h0, _⟩ := sitF_first ht hbal m (b ++ [(q : Int)]) (by simp <;> omega) (by rw [← hts]; simp <;> omega)
    obtain ⟨j, a, hj, ha, hall, _⟩ := findSome_first (fun s : Nat => if sitsB c (guAt l b.length) b s = true then sitF c l f m (b ++ [(s : Int)]) else none) c.st.length q (by omega) (by rw [if_pos hk, h0]; rfl)
    refine ⟨a, by rw [sitF]; exact hall, ?_⟩
    split at ha
    · rename_i hjs
      by_cases hjq : j = q
      · subst hjq
        obtain ⟨a1, h1, h2⟩ := sitF_first ht hbal m (b ++ [(j : Int)]) (by simp <;> omega) (by rw [← hts]; simp <;> omega)
        rw [ha] at h1
        simp only [Option.some.injEq] at h1
        subst h1
        rcases h2 with h2 | ⟨i, i1, i2, i3, i4⟩
        · exact .inl h2
        · exact .inr ⟨i, by simp at i1; omega, i2, i3, i4⟩
      · right
        -- a begins with b ++ [j]
        have hsd : ∀ (m : Nat) (b a : List Int), sitF c l f m b = some a → a.take b.length = b ∧ b.length ≤ a.length := by
          intro m
          induction m with
          | zero => intro b a h; rw [sitF] at h; split at h <;> simp at h; subst h; simp
          | succ m ih =>
            intro b a h
            rw [sitF] at h
            obtain ⟨s, _, h1⟩ := List.exists_of_findSome?_eq_some h
            split at h1
            · obtain ⟨k1, k2⟩ := ih _ _ h1
              have := congrArg (List.take b.length) k1
              rw [List.take_take, List.take_left' rfl] at this
              exact ⟨by simpa [Nat.min_eq_left] using this, by simp at k2; omega⟩
            · simp at h1
        obtain ⟨k1, k2⟩ := hsd _ _ _ ha
        have k2' : b.length + 1 ≤ a.length := by simpa using k2
        refine ⟨b.length, Nat.le_refl _, by omega, ?_, ?_⟩
        · have := congrArg (List.take b.length) k1
          rw [List.take_take, List.take_left' rfl] at this
          rw [← hb]
          simpa [Nat.min_eq_left] using this
        · have : a.getD b.length 0 = (j : Int) := by
            have h3 : (a.take (b ++ [(j : Int)]).length).getD b.length 0 = (b ++ [(j : Int)]).getD b.length 0 := by rw [k1]
            simp [List.getD, List.getElem?_take] at h3
            simpa [List.getD] using h3
          rw [this, hs]; omega
    · simp at ha
end Go.Sx
end
