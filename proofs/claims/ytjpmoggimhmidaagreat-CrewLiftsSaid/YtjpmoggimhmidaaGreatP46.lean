/- A part of a proof; no conditions. -/
import Derived.Test.YtjpmoggimhmidaaGreatP45
set_option linter.unusedSimpArgs false
set_option linter.unusedVariables false
set_option linter.unusedSectionVars false
section
/- Crew: right duties; whether a call is one. No conditions. -/
set_option linter.unusedSimpArgs false
set_option linter.unusedSectionVars false
set_option maxRecDepth 100000
set_option maxHeartbeats 2000000
namespace Go.Sx
open Go.Proofs
attribute [local irreducible] HLe

@[simp] def chE (d : Ro × List Du) : List V := [.agg d.1.row, .sl 3 (d.2.map Du.row)]
theorem chE_inj (a b : Ro × List Du) (h : chE a = chE b) : a = b := by
  obtain ⟨a1, a2⟩ := a; obtain ⟨b1, b2⟩ := b
  simp only [chE, List.cons.injEq, V.agg.injEq, V.sl.injEq, true_and, and_true] at h
  rw [Ro.row_inj _ _ h.1, mapRow_inj Du.row_inj h.2]
theorem chE_dec (r : Ro) (l : List Du) : decC chE [.agg [.sl 3 (r.ppl.map Pn.row), .int .i64 r.lng, .int .i64 r.rst, .int .i64 r.win, .int .i64 r.tot, .int .i64 r.rcn], .sl 3 (l.map Du.row)] = (r, l) := decC_eq chE_inj (r, l)
structure ChP (d : Ro × List Du) : Prop where
  p : d.1.ppl.length ≤ 1000000
  n : d.2.length ≤ 1000000
noncomputable abbrev chS : PSpec := mkP chE ChP fun d => .tup [.int .i64 (chkEW srtD d.1 d.2).1, .int .i64 (chkEW srtD d.1 d.2).2]
theorem chk_no {r : Ro} {l : List Du} (h : r.ok = false) : chkEW srtD r l = (0, 100) := by simp [chkEW, h]
theorem chk_many {r : Ro} {l : List Du} (h : r.ok = true) (h2 : 60 < l.length) : chkEW srtD r l = (0, 2) := by simp [chkEW, h, h2]
theorem chk_bad {r : Ro} {l : List Du} (h : r.ok = true) (h2 : ¬ 60 < l.length) {k : Nat} (hk : k < l.length) (hp : duOkW srtD r l k = false) (hall : ∀ j, j < k → duOkW srtD r l j = true) : chkEW srtD r l = ((k : Int), 101) := by
  have : badDuW srtD r l = k := idxZ_at _ _ (by simpa using hk) (by simp [hp]) fun j _ hj => by simp [hall j hj]
  simp [chkEW, h, h2, this]
theorem chk_ok {r : Ro} {l : List Du} (h : r.ok = true) (h2 : ¬ 60 < l.length) (hall : ∀ j, j < l.length → duOkW srtD r l j = true) : chkEW srtD r l = (0, 0) := by
  have : badDuW srtD r l = -1 := idxZ_none _ _ fun j hj => by simp at hj ⊢; exact hall j hj
  simp [chkEW, h, h2, this]
theorem duOkW_eq (r : Ro) (l : List Du) (i : Nat) (d : Du) (hd : duAt l i = d) : duOkW srtD r l i = (withinB d.p 0 (r.ppl.length - 1) && strW d.a d.b && (decide (i = 0) || decide ((duAt l (i - 1)).a ≤ d.a)) && (brkW srtD r (own (l.take i) d.p) d).isEmpty) := by
  subst hd; rfl
theorem duOkW_beg {r : Ro} {l : List Du} {i : Nat} (h : duOkW srtD r l i = true) : 0 ≤ (duAt l i).a ∧ (duAt l i).a ≤ 9223372036854775807 := by
  unfold duOkW at h
  simp only [Bool.and_eq_true] at h
  exact strW_beg h.1.1.2
theorem duOkW_begs {r : Ro} {l : List Du} {k : Nat} (hk : k ≤ l.length) (h : ∀ j, j < k → duOkW srtD r l j = true) : ∀ d ∈ l.take k, 0 ≤ d.a ∧ d.a ≤ 9223372036854775807 := by
  intro d hd
  obtain ⟨j, hj, rfl⟩ := List.getElem_of_mem hd
  have hj2 : j < k ∧ j < l.length := by rw [List.length_take] at hj; omega
  have := duOkW_beg (h j hj2.1)
  have e : duAt l j = (l.take k)[j] := by simp [duAt, List.getD, hj2.2]
  rw [← e]; exact this
noncomputable abbrev E49 : Env := { P := Tryz.prog, fn := tbl [(29, .pure withinS), (81, .pure rosS), (82, .pure strS), (31, .pure ofS), (32, .pure brkS)], own := [], key := 4900, nt := 70 }
theorem b49 : PureBody E49 [] Tryz.f49 chS := by
  refine pb ?_
  rintro ⟨r, l⟩ ⟨hp, hl⟩
  simp only at hp hl
  cases hok : r.ok
  · have hz := chk_no (l := l) hok
    simp -dsimp [Tryz.f49, E49, Ro.row, pplV, roE_dec, hp, hok]
    repeat' (first | omega | (simp -dsimp [E49, ri, cellp, ints, Ro.row, pplV, roE_dec, hp, hok, hz]) | (refine Also.intro ?_ fun _ => ?_) | (refine Hold.intro fun _ => ?_) | (refine And.intro ?_ ?_))
  by_cases h60 : 60 < l.length
  · have h60i : (60 : Int) < l.length := by omega
    have hz := chk_many (l := l) hok h60
    simp -dsimp [Tryz.f49, E49, Ro.row, pplV, roE_dec, hp, hok]
    repeat' (first | omega | (simp -dsimp [E49, ri, cellp, ints, Ro.row, pplV, roE_dec, hp, hok, hz, h60i]) | (refine Also.intro ?_ fun _ => ?_) | (refine Hold.intro fun _ => ?_) | (refine And.intro ?_ ?_))
  have h60i : ¬ (60 : Int) < l.length := by omega
  have hwp : IntKind.wrap .i64 ((r.ppl.length : Int) - 1) = r.ppl.length - 1 := wrap_id (by omega) (by omega)
  simp -dsimp [Tryz.f49, E49, Ro.row, pplV, roE_dec, hp, hok]
  repeat' (first | omega | (simp -dsimp [E49, ri, cellp, ints, Ro.row, pplV, roE_dec, hp, hok, h60i]) | (refine Also.intro ?_ fun _ => ?_) | (refine Hold.intro fun _ => ?_) | (refine And.intro ?_ ?_))
  refine awp_loop [20, 21, 22, 23, 8, 7, 24, 25, 26, 27, 28, 29, 30, 31, 32, 33, 34, 35, 36, 37, 38, 39, 40, 41, 42, 43, 44, 45, 46, 47, 48, 49, 50, 51, 52, 53, 54, 55, 56, 57, 58, 59, 60, 61, 62, 63, 64, 65, 66, 67, 68, 4, 5, 69, 19] (fun k : { k : Nat // k ≤ l.length ∧ ∀ j, j < k → duOkW srtD r l j = true } => [(19, (true, .int .i64 k.1))]) (fun k => hps [(4908, { base := k.1, blks := [] }), (4902, { base := 0, blks := [{ z := 6, els := [r.row], ty := 57 }] })] noH) (fun k => l.length - k.1) ⟨0, by omega, fun _ h => by omega⟩ ?_ ?_ ?_
  · simp [okAll, okv]
  · exact (by (try simp -dsimp only [hpush_noH, hpush_hps, hps_over]); refine hle_hps ?_; simp -dsimp [allK, Ro.row, pplV]; repeat' (first | (refine And.intro ?_ ?_) | (refine sLe.same ?_ ?_ <;> (simp; done)) | (refine sLe.clear ?_ ?_ <;> (first | (simp; done) | (simp; omega))) | (refine sLe.drop 1 ?_ ?_ ?_ <;> (simp; done))))
  rintro ⟨k, hk, hall⟩
  dsimp only
  by_cases hk1 : k < l.length
  · have hki : (k : Int) < l.length := by omega
    have wk : IntKind.wrap .i64 ((k : Int) + 1) = (k + 1 : Nat) := wrap_id (by omega) (by omega)
    obtain ⟨d, hd⟩ : ∃ d, l[k]? = some d := ⟨_, List.getElem?_eq_getElem hk1⟩
    have hd' : l[k] = d := get_of hd hk1
    have hda : duAt l k = d := by simp [duAt, List.getD, hd]
    have hD := duOkW_eq r l k d hda
    have hbeg := duOkW_begs (by omega) hall
    have hlk : (l.take k).length ≤ 1000000 := by simp; omega
    have hbb : ∀ n, ∀ x ∈ own (l.take k) n, 0 ≤ x.a ∧ x.a ≤ 9223372036854775807 := fun n x hx => hbeg x (own_mem.1 hx).1
    have hon : (own (l.take k) d.p).length ≤ k := by have := own_len (l.take k) d.p; simp at this; omega
    have hmt : List.take k (l.map Du.row) = (l.take k).map Du.row := by rw [List.map_take]
    generalize l.take k = lk at *
    have hon' : ∀ x ∈ own lk d.p, 0 ≤ x.a ∧ x.a ≤ 9223372036854775807 := hbb d.p
    by_cases hk0 : k = 0
    · subst hk0
      have hne : (l = []) = False := eq_false (by rintro rfl; simp at hk1)
      have w1 : IntKind.wrap .i64 1 = 1 := wrap_id (by omega) (by omega)
      cases c1 : withinB d.p 0 (r.ppl.length - 1)
      · have hz := chk_bad hok h60 hk1 (by rw [hD, c1]; rfl) hall
        simp -dsimp [hki]
        repeat' (first | omega | (simp -dsimp [E49, ri, cellp, ints, hne, w1, hki, hk1, hd, hd', hl, wk, hwp, hmt, hlk, ofE_dec, reE_dec, Du.row, Ro.row, pplV, bkRow, c1, hz]) | (refine Also.intro ?_ fun _ => ?_) | (refine Hold.intro fun _ => ?_) | (refine And.intro ?_ ?_))
      cases c2 : strW d.a d.b
      · have hz := chk_bad hok h60 hk1 (by rw [hD, c1, c2]; rfl) hall
        simp -dsimp [hki]
        repeat' (first | omega | (simp -dsimp [E49, ri, cellp, ints, hne, w1, hki, hk1, hd, hd', hl, wk, hwp, hmt, hlk, ofE_dec, reE_dec, Du.row, Ro.row, pplV, bkRow, c1, c2, hz]) | (refine Also.intro ?_ fun _ => ?_) | (refine Hold.intro fun _ => ?_) | (refine And.intro ?_ ?_))
      have hsb := strW_beg c2
      have hBg : Beg (own lk d.p ++ [d]) := ⟨by simp; omega, fun x hx => by
        rcases List.mem_append.1 hx with h | h
        · exact hon' x h
        · exact List.mem_singleton.1 h ▸ hsb⟩
      generalize hB : brkW srtD r (own lk d.p) d = B at hD
      cases B with
      | nil =>
        simp -dsimp [hki]
        repeat' (first | omega | (simp -dsimp [E49, ri, cellp, ints, hne, w1, hki, hk1, hd, hd', hl, wk, hwp, hmt, hlk, ofE_dec, reE_dec, Du.row, Ro.row, pplV, bkRow, c1, c2, hB, hBg]) | (refine Also.intro ?_ fun _ => ?_) | (refine Hold.intro fun _ => ?_) | (refine And.intro ?_ ?_))
        refine ⟨0 + 1, tle_chain rfl ?_, ?_, ⟨by omega, fun i hi => ?_⟩, by omega⟩
        · simp [okAll, okv, w1]
        · exact (by (try simp -dsimp only [hpush_noH, hpush_hps, hps_over]); refine hle_hps ?_; simp -dsimp [allK, Ro.row, pplV]; repeat' (first | (refine And.intro ?_ ?_) | (refine sLe.same ?_ ?_ <;> (simp; done)) | (refine sLe.clear ?_ ?_ <;> (first | (simp; done) | (simp; omega))) | (refine sLe.drop 1 ?_ ?_ ?_ <;> (simp; done))))
        · by_cases hik : i = 0
          · subst hik; rw [hD, c1, c2]; simp
          · exact hall i (by omega)
      | cons b bs =>
        have hz := chk_bad hok h60 hk1 (by rw [hD]; simp) hall
        simp -dsimp [hki]
        repeat' (first | omega | (simp -dsimp [E49, ri, cellp, ints, hne, w1, hki, hk1, hd, hd', hl, wk, hwp, hmt, hlk, ofE_dec, reE_dec, Du.row, Ro.row, pplV, bkRow, c1, c2, hB, hBg, hz]) | (refine Also.intro ?_ fun _ => ?_) | (refine Hold.intro fun _ => ?_) | (refine And.intro ?_ ?_))
    · obtain ⟨j, rfl⟩ : ∃ j, k = j + 1 := ⟨k - 1, by omega⟩
      have hj1 : j < l.length := by omega
      obtain ⟨e, he⟩ : ∃ e, l[j]? = some e := ⟨_, List.getElem?_eq_getElem hj1⟩
      have he' : l[j] = e := get_of he hj1
      have hde : duAt l (j + 1 - 1) = e := by simp [duAt, List.getD, he]
      have wj : IntKind.wrap .i64 (((j + 1 : Nat) : Int) - 1) = (j : Nat) := by rw [wrap_id (by omega) (by omega)]; omega
      have wj2 : IntKind.wrap .i64 (j : Int) = (j : Nat) := wrap_id (by omega) (by omega)
      have hji : (j : Int) < l.length := by omega
      have wk2 : IntKind.wrap .i64 ((j : Int) + 1 + 1) = (j : Int) + 1 + 1 := wrap_id (by omega) (by omega)
      have hd3 : (decide (j + 1 = 0) || decide ((duAt l (j + 1 - 1)).a ≤ d.a)) = decide (e.a ≤ d.a) := by rw [hde]; simp
      cases c1 : withinB d.p 0 (r.ppl.length - 1)
      · have hz := chk_bad hok h60 hk1 (by rw [hD, c1]; rfl) hall
        simp -dsimp [hki]
        repeat' (first | omega | (simp -dsimp [E49, ri, cellp, ints, wk2, hki, hk1, hd, hd', hl, wk, hwp, hmt, hlk, ofE_dec, reE_dec, Du.row, Ro.row, pplV, bkRow, wj, wj2, hji, hj1, he, he', c1, hz]) | (refine Also.intro ?_ fun _ => ?_) | (refine Hold.intro fun _ => ?_) | (refine And.intro ?_ ?_))
      cases c2 : strW d.a d.b
      · have hz := chk_bad hok h60 hk1 (by rw [hD, c1, c2]; rfl) hall
        simp -dsimp [hki]
        repeat' (first | omega | (simp -dsimp [E49, ri, cellp, ints, wk2, hki, hk1, hd, hd', hl, wk, hwp, hmt, hlk, ofE_dec, reE_dec, Du.row, Ro.row, pplV, bkRow, wj, wj2, hji, hj1, he, he', c1, c2, hz]) | (refine Also.intro ?_ fun _ => ?_) | (refine Hold.intro fun _ => ?_) | (refine And.intro ?_ ?_))
      by_cases c3 : d.a < e.a
      · have hz := chk_bad hok h60 hk1 (by rw [hD, c1, c2, hd3, decide_eq_false (by omega : ¬ e.a ≤ d.a)]; simp) hall
        simp -dsimp [hki]
        repeat' (first | omega | (simp -dsimp [E49, ri, cellp, ints, wk2, hki, hk1, hd, hd', hl, wk, hwp, hmt, hlk, ofE_dec, reE_dec, Du.row, Ro.row, pplV, bkRow, wj, wj2, hji, hj1, he, he', c1, c2, c3, hz]) | (refine Also.intro ?_ fun _ => ?_) | (refine Hold.intro fun _ => ?_) | (refine And.intro ?_ ?_))
      have hd4 : decide (e.a ≤ d.a) = true := decide_eq_true (by omega)
      have hsb := strW_beg c2
      have hBg : Beg (own lk d.p ++ [d]) := ⟨by simp; omega, fun x hx => by
        rcases List.mem_append.1 hx with h | h
        · exact hon' x h
        · exact List.mem_singleton.1 h ▸ hsb⟩
      generalize hB : brkW srtD r (own lk d.p) d = B at hD
      cases B with
      | nil =>
        simp -dsimp [hki]
        repeat' (first | omega | (simp -dsimp [E49, ri, cellp, ints, wk2, hki, hk1, hd, hd', hl, wk, hwp, hmt, hlk, ofE_dec, reE_dec, Du.row, Ro.row, pplV, bkRow, wj, wj2, hji, hj1, he, he', c1, c2, c3, hB, hBg]) | (refine Also.intro ?_ fun _ => ?_) | (refine Hold.intro fun _ => ?_) | (refine And.intro ?_ ?_))
        refine ⟨(j + 1) + 1, tle_chain rfl ?_, ?_, ⟨by omega, fun i hi => ?_⟩, by omega⟩
        · simp [okAll, okv, wk2]
        · exact (by (try simp -dsimp only [hpush_noH, hpush_hps, hps_over]); refine hle_hps ?_; simp -dsimp [allK, Ro.row, pplV]; repeat' (first | (refine And.intro ?_ ?_) | (refine sLe.same ?_ ?_ <;> (simp; done)) | (refine sLe.clear ?_ ?_ <;> (first | (simp; done) | (simp; omega))) | (refine sLe.drop 1 ?_ ?_ ?_ <;> (simp; done))))
        · by_cases hik : i = (j + 1)
          · subst hik; rw [hD, c1, c2, hd3, hd4]; simp
          · exact hall i (by omega)
      | cons b bs =>
        have hz := chk_bad hok h60 hk1 (by rw [hD]; simp) hall
        simp -dsimp [hki]
        repeat' (first | omega | (simp -dsimp [E49, ri, cellp, ints, wk2, hki, hk1, hd, hd', hl, wk, hwp, hmt, hlk, ofE_dec, reE_dec, Du.row, Ro.row, pplV, bkRow, wj, wj2, hji, hj1, he, he', c1, c2, c3, hB, hBg, hz]) | (refine Also.intro ?_ fun _ => ?_) | (refine Hold.intro fun _ => ?_) | (refine And.intro ?_ ?_))
  · have hkn : ¬ (k : Int) < l.length := by omega
    have hz := chk_ok hok h60 fun j hj => hall j (by omega)
    simp -dsimp [hkn]
    repeat' (first | omega | (simp -dsimp [E49, ri, cellp, ints, hkn, hz]) | (refine Also.intro ?_ fun _ => ?_) | (refine Hold.intro fun _ => ?_) | (refine And.intro ?_ ?_))
theorem ok49 : FnOK Tryz.prog 49 (.pure chS) := pure_fn (E := E49) rfl (.cons ok29 (.cons ok81 (.cons ok82 (.cons ok31 (.cons ok32 .nil))))) (ok := []) (fn := Tryz.f49) (by kernel_rfl) (by kernel_rfl) (by kernel_rfl) (by kernel_rfl) rfl (fun _ _ => by simp) b49
end Go.Sx
end
section
/- Crew: what is right beside duties; calls; why somebody may not fly. No conditions. -/
set_option linter.unusedSimpArgs false
set_option linter.unusedSectionVars false
set_option maxRecDepth 100000
set_option maxHeartbeats 2000000
namespace Go.Sx
open Go.Proofs
attribute [local irreducible] HLe

@[simp] def ckE (d : Ro × List Du × Bool) : List V := [.agg d.1.row, .sl 3 (d.2.1.map Du.row), .bool d.2.2]
theorem ckE_inj (a b : Ro × List Du × Bool) (h : ckE a = ckE b) : a = b := by
  obtain ⟨a1, a2, a3⟩ := a; obtain ⟨b1, b2, b3⟩ := b
  simp only [ckE, List.cons.injEq, V.agg.injEq, V.sl.injEq, V.bool.injEq, true_and, and_true] at h
  rw [Ro.row_inj _ _ h.1, mapRow_inj Du.row_inj h.2.1, h.2.2]
theorem ckE_dec (r : Ro) (l : List Du) (b : Bool) : decC ckE [.agg [.sl 3 (r.ppl.map Pn.row), .int .i64 r.lng, .int .i64 r.rst, .int .i64 r.win, .int .i64 r.tot, .int .i64 r.rcn], .sl 3 (l.map Du.row), .bool b] = (r, l, b) := decC_eq ckE_inj (r, l, b)
noncomputable abbrev ckS : PSpec := mkP ckE (fun d => ChP (d.1, d.2.1)) fun d => .int .i64 (chk2W srtD d.1 d.2.1 d.2.2)
noncomputable abbrev E28 : Env := { P := Tryz.prog, fn := tbl [(49, .pure chS)], own := [], key := 2800, nt := 22 }
theorem b28 : PureBody E28 [] Tryz.f28 ckS := by
  refine pb ?_
  rintro ⟨r, l, b⟩ hC
  have hC : ChP (r, l) := hC
  have h2 : chk2W srtD r l b = if (chkEW srtD r l).2 = 0 then (if b = true then 0 else 1) else (chkEW srtD r l).2 := rfl
  rcases hK : chkEW srtD r l with ⟨i, e⟩
  rw [hK] at h2
  dsimp only at h2
  by_cases he : e = 0
  · subst he
    rw [if_pos rfl] at h2
    cases b
    · simp -dsimp [Tryz.f28, E28, Ro.row, pplV]
      repeat' (first | omega | (simp -dsimp [E28, ri, cellp, ints, Ro.row, pplV, chE_dec, hC, hK, h2]) | (refine Also.intro ?_ fun _ => ?_) | (refine Hold.intro fun _ => ?_) | (refine And.intro ?_ ?_))
    · simp -dsimp [Tryz.f28, E28, Ro.row, pplV]
      repeat' (first | omega | (simp -dsimp [E28, ri, cellp, ints, Ro.row, pplV, chE_dec, hC, hK, h2]) | (refine Also.intro ?_ fun _ => ?_) | (refine Hold.intro fun _ => ?_) | (refine And.intro ?_ ?_))
  · rw [if_neg he] at h2
    have he' : ((e : Int) = 0) = False := eq_false he
    simp -dsimp [Tryz.f28, E28, Ro.row, pplV]
    repeat' (first | omega | (simp -dsimp [E28, ri, cellp, ints, Ro.row, pplV, chE_dec, hC, hK, h2, he']) | (refine Also.intro ?_ fun _ => ?_) | (refine Hold.intro fun _ => ?_) | (refine And.intro ?_ ?_))
theorem ok28 : FnOK Tryz.prog 28 (.pure ckS) := pure_fn (E := E28) rfl (.cons ok49 .nil) (ok := []) (fn := Tryz.f28) (by kernel_rfl) (by kernel_rfl) (by kernel_rfl) (by kernel_rfl) rfl (fun _ _ => by simp) b28
@[simp] def clE (c : Cl) : List V := [.agg c.row]
theorem clE_inj (a b : Cl) (h : clE a = clE b) : a = b := Cl.row_inj _ _ (by simpa using h)
theorem clE_dec (c : Cl) : decC clE [.agg [.int .i64 c.a, .int .i64 c.b, .int .i64 c.craft, .bool c.water]] = c := decC_eq clE_inj c
noncomputable abbrev callS : PSpec := mkP clE (fun _ => True) fun c => .bool (callW c)
theorem callW_eq (c : Cl) : callW c = (strW c.a c.b && withinB c.craft 0 7) := rfl

/-! why -/
@[simp] def whE (d : Ro × List Du × Int × Cl) : List V := [.agg d.1.row, .sl 3 (d.2.1.map Du.row), .int .i64 d.2.2.1, .agg d.2.2.2.row]
theorem whE_inj (a b : Ro × List Du × Int × Cl) (h : whE a = whE b) : a = b := by
  obtain ⟨a1, a2, a3, a4⟩ := a; obtain ⟨b1, b2, b3, b4⟩ := b
  simp only [whE, List.cons.injEq, V.agg.injEq, V.sl.injEq, V.int.injEq, true_and, and_true] at h
  rw [Ro.row_inj _ _ h.1, mapRow_inj Du.row_inj h.2.1, h.2.2.1, Cl.row_inj _ _ h.2.2.2]
theorem whE_dec (r : Ro) (l : List Du) (n : Int) (c : Cl) : decC whE [.agg [.sl 3 (r.ppl.map Pn.row), .int .i64 r.lng, .int .i64 r.rst, .int .i64 r.win, .int .i64 r.tot, .int .i64 r.rcn], .sl 3 (l.map Du.row), .int .i64 n, .agg [.int .i64 c.a, .int .i64 c.b, .int .i64 c.craft, .bool c.water]] = (r, l, n, c) := decC_eq whE_inj (r, l, n, c)
structure WhP (d : Ro × List Du × Int × Cl) : Prop where
  fit : d.1.Fit
  len : d.2.1.length ≤ 60
  beg : ∀ x ∈ d.2.1, 0 ≤ x.a ∧ x.a ≤ 9223372036854775807
  n : 0 ≤ d.2.2.1 ∧ d.2.2.1 ≤ d.1.ppl.length - 1
  call : callW d.2.2.2 = true
theorem WhP.of {r : Ro} {l : List Du} {n : Int} {c : Cl} (h : (chkEW srtD r l).2 = 0) (hn : 0 ≤ n ∧ n ≤ r.ppl.length - 1) (hc : callW c = true) : WhP (r, l, n, c) := by
  unfold chkEW at h
  split at h
  · rename_i h1
    split at h
    · simp at h
    · rename_i h2
      split at h
      · simp at h
      · rename_i h3
        refine ⟨Ro.ok_iff.1 h1, by simpa using h2, ?_, hn, hc⟩
        have hb : badDuW srtD r l = -1 := by
          apply Classical.byContradiction
          intro hne
          obtain ⟨k, _, e, _⟩ := idxZ_some hne
          exact h3 (by rw [badDuW, e]; omega)
        have hall : ∀ j, j < l.length → duOkW srtD r l j = true := by
          intro j hj
          apply Classical.byContradiction
          intro hne
          have : idxZ (List.range l.length) (fun i => !duOkW srtD r l i) ≠ -1 := by
            intro e
            have h0 := idxZ_any (List.range l.length) (fun i => !duOkW srtD r l i)
            rw [e, decide_eq_false (by omega)] at h0
            have := (List.any_eq_false.1 h0.symm) j (List.mem_range.2 hj)
            simp at this; exact hne this
          exact this hb
        have := duOkW_begs (r := r) (Nat.le_refl l.length) hall
        rwa [List.take_length] at this
  · simp at h
noncomputable abbrev whyS : PSpec := mkP whE WhP fun d => ints (whyW srtD d.1 d.2.1 d.2.2.1 d.2.2.2)
theorem bit_of {x k : Int} (hx : 0 ≤ x ∧ x ≤ 255) (hk : 0 ≤ k ∧ k ≤ 7) : bitw .and .i64 (shrV .i64 x k) 1 = if bit1 x k = true then 1 else 0 := by
  obtain ⟨a, rfl⟩ : ∃ a : Nat, x = a := ⟨x.toNat, by omega⟩
  obtain ⟨n, rfl⟩ : ∃ n : Nat, k = n := ⟨k.toNat, by omega⟩
  have h : sr a n < 9223372036854775808 := Nat.lt_of_le_of_lt (Nat.shiftRight_le a n) (by omega)
  rw [bit_shr a n (by omega), show (1 : Int) = ((1 : Nat) : Int) from rfl, bit_and h (by omega), bit_one]
  unfold bit1
  simp only [Int.toNat_natCast]
  split <;> rfl
end Go.Sx
end
