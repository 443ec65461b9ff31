/- A part of a proof; no conditions. -/
import Derived.Test.YtnpdjaikmdagmaaP11
import Derived.Test.YtnpdjaikmdagmaaP19
set_option linter.unusedSimpArgs false
set_option linter.unusedVariables false
set_option linter.unusedSectionVars false
section
/- Crew: the reference's rules. No conditions. -/
set_option linter.unusedSimpArgs false
set_option linter.unusedSectionVars false
set_option maxRecDepth 100000
set_option maxHeartbeats 2000000
namespace Go.Sx
open Go.Proofs
attribute [local irreducible] HLe

abbrev tikS : PSpec := { dom := Int × Int, enc := fun d => [.int .i64 d.1, .int .i64 d.2], dec := fun l => ((l.getD 0 .top).toInt, (l.getD 1 .top).toInt), pre := fun _ => True, res := fun d => .bool (strB d.1 d.2) }
noncomputable abbrev E52 : Env := { P := Try.prog, fn := tbl [], own := [], key := 5200, nt := 16 }
theorem b52 : PureBody E52 [] Try.f52 tikS := by
  refine pb ?_
  rintro ⟨a, b⟩ _
  have hS : strB a b = (decide (0 ≤ a) && decide (a < b) && decide (b ≤ 2000)) := by
    rw [Bool.eq_iff_iff, strB_iff]; simp [and_assoc]
  simp -dsimp [Try.f52, E52, hS]
  repeat' (first | omega | (simp -dsimp [E52, ri, cellp, ints, hS]) | (refine Also.intro ?_ fun _ => ?_) | (refine Hold.intro fun _ => ?_) | (refine And.intro ?_ ?_))
theorem ok52 : FnOK Try.prog 52 (.pure tikS) := pure_fn (E := E52) rfl LOK.nil (ok := []) (fn := Try.f52) (by kernel_rfl) (by kernel_rfl) (by kernel_rfl) (by kernel_rfl) rfl (fun _ _ => by simp) b52
@[simp] def peE (d : Ro × Int) : List V := [.agg d.1.row, .int .i64 d.2]
theorem peE_inj (a b : Ro × Int) (h : peE a = peE b) : a = b := by
  obtain ⟨a1, a2⟩ := a; obtain ⟨b1, b2⟩ := b
  simp only [peE, List.cons.injEq, V.agg.injEq, V.int.injEq, true_and, and_true] at h
  rw [Ro.row_inj _ _ h.1, h.2]
theorem peE_dec (r : Ro) (n : Int) : decC peE [.agg [.sl 3 (r.ppl.map Pn.row), .int .i64 r.lng, .int .i64 r.rst, .int .i64 r.win, .int .i64 r.tot, .int .i64 r.rcn], .int .i64 n] = (r, n) := decC_eq peE_inj (r, n)
noncomputable abbrev perS : PSpec := mkP peE (fun d => d.1.ppl.length ≤ 1000000) fun d => .bool (perB d.1 d.2)
noncomputable abbrev E51 : Env := { P := Try.prog, fn := tbl [(40, .pure withinS)], own := [], key := 5100, nt := 11 }
theorem b51 : PureBody E51 [] Try.f51 perS := by
  refine pb ?_
  rintro ⟨r, n⟩ hl
  have hl : r.ppl.length ≤ 1000000 := hl
  have hwp : IntKind.wrap .i64 ((r.ppl.length : Int) - 1) = r.ppl.length - 1 := wrap_id (by omega) (by omega)
  have hP : perB r n = withinB n 0 (r.ppl.length - 1) := rfl
  simp -dsimp [Try.f51, E51, Ro.row, pplV]
  repeat' (first | omega | (simp -dsimp [E51, ri, cellp, ints, Ro.row, pplV, hwp, hP]) | (refine Also.intro ?_ fun _ => ?_) | (refine Hold.intro fun _ => ?_) | (refine And.intro ?_ ?_))
theorem ok51 : FnOK Try.prog 51 (.pure perS) := pure_fn (E := E51) rfl (.cons ok40 .nil) (ok := []) (fn := Try.f51) (by kernel_rfl) (by kernel_rfl) (by kernel_rfl) (by kernel_rfl) rfl (fun _ _ => by simp) b51
/-! in how many ticks -/
/-- A duty of valid ticks. -/
def VDu (d : Du) : Prop := 0 ≤ d.a ∧ d.a < d.b ∧ d.b ≤ 2000
@[simp] def bsE (d : Du × Int × Int × Int) : List V := [.sl 3 [d.1.row], .int .i64 d.2.1, .int .i64 d.2.2.1, .int .i64 d.2.2.2]
theorem bsE_inj (a b : Du × Int × Int × Int) (h : bsE a = bsE b) : a = b := by
  obtain ⟨a1, a2, a3, a4⟩ := a; obtain ⟨b1, b2, b3, b4⟩ := b
  simp only [bsE, List.cons.injEq, V.sl.injEq, V.int.injEq, true_and, and_true] at h
  rw [Du.row_inj _ _ h.1, h.2.1, h.2.2.1, h.2.2.2]
theorem bsE_dec (d : Du) (n x y : Int) : decC bsE [.sl 3 [[.int .i64 d.p, .int .i64 d.a, .int .i64 d.b]], .int .i64 n, .int .i64 x, .int .i64 y] = (d, n, x, y) := decC_eq bsE_inj (d, n, x, y)
structure BsP (e : Du × Int × Int × Int) : Prop where
  d : VDu e.1
  x : -100000 ≤ e.2.2.1 ∧ e.2.2.1 ≤ 100000
  y : -100000 ≤ e.2.2.2 ∧ e.2.2.2 ≤ 100000
noncomputable abbrev busS : PSpec := mkP bsE BsP fun d => .int .i64 (if d.1.p = d.2.1 then bus1 d.1 d.2.2.1 d.2.2.2 else 0)
noncomputable abbrev E107 : Env := { P := Try.prog, fn := tbl [], own := [], key := 10700, nt := 43 }
theorem b107 : PureBody E107 [] Try.f107 busS := by
  refine pb ?_
  rintro ⟨d, n, x, y⟩ ⟨⟨hd1, hd2, hd3⟩, hx, hy⟩
  simp only at hd1 hd2 hd3 hx hy
  obtain ⟨b, hb⟩ : ∃ b, bus1 d x y = b := ⟨_, rfl⟩
  have hB : max 0 (min y d.b - max x d.a) = b := hb
  have hbb : 0 ≤ b ∧ b ≤ 200000 := by omega
  obtain ⟨m1, hm1⟩ : ∃ m, (if d.b < y then d.b else y) = m := ⟨_, rfl⟩
  obtain ⟨m2, hm2⟩ : ∃ m, (if x < d.a then d.a else x) = m := ⟨_, rfl⟩
  have e1 : m1 = min y d.b := by rw [← hm1]; split <;> omega
  have e2 : m2 = max x d.a := by rw [← hm2]; split <;> omega
  have w1 : IntKind.wrap .i64 (m1 - m2) = m1 - m2 := wrap_id (by omega) (by omega)
  have e3 : (if 0 < m1 - m2 then m1 - m2 else 0) = b := by rw [← hB, e1, e2]; split <;> omega
  have e3' : (if m2 < m1 then m1 - m2 else 0) = b := by rw [← hB, e1, e2]; split <;> omega
  have w2 : IntKind.wrap .i64 b = b := wrap_id (by omega) (by omega)
  have w3 : IntKind.wrap .i64 1 = 1 := wrap_id (by omega) (by omega)
  clear e1 e2
  simp -dsimp [Try.f107, E107, Du.row]
  by_cases hp : d.p = n
  · rw [hb]
    refine awp_loop [11, 12, 13, 14, 17, 18, 19, 20, 21, 22, 23, 24, 25, 26, 27, 28, 29, 30, 31, 32, 33, 34, 35, 36, 37, 38, 39, 40, 41, 9, 15, 16, 10] (fun k : Bool => [(10, (true, .int .i64 (if k then 1 else 0))), (9, (true, .int .i64 (if k then b else 0)))]) (fun _ => noH) (fun k => if k then 0 else 1) false ?_ (HLe.refl _) ?_
    · simp [okAll, okv]
    rintro (_ | _)
    · simp -dsimp []
      repeat' (first | omega | (simp -dsimp [E107, ri, cellp, ints, hp, hm1, hm2, w1, e3, e3', w2, w3]) | (refine Also.intro ?_ fun _ => ?_) | (refine Hold.intro fun _ => ?_) | (refine And.intro ?_ ?_))
      · exact tle_chain rfl (by simp [okAll, okv])
      · exact HLe.refl _
    · simp -dsimp []
      repeat' (first | omega | (simp -dsimp [E107, ri, cellp, ints, hp]) | (refine Also.intro ?_ fun _ => ?_) | (refine Hold.intro fun _ => ?_) | (refine And.intro ?_ ?_))
  · have hp' : (d.p = n) = False := eq_false hp
    refine awp_loop [11, 12, 13, 14, 17, 18, 19, 20, 21, 22, 23, 24, 25, 26, 27, 28, 29, 30, 31, 32, 33, 34, 35, 36, 37, 38, 39, 40, 41, 9, 15, 16, 10] (fun k : Bool => [(10, (true, .int .i64 (if k then 1 else 0))), (9, (true, .int .i64 0))]) (fun _ => noH) (fun k => if k then 0 else 1) false ?_ (HLe.refl _) ?_
    · simp [okAll, okv]
    rintro (_ | _)
    · simp -dsimp []
      repeat' (first | omega | (simp -dsimp [E107, ri, cellp, ints, hp', w3]) | (refine Also.intro ?_ fun _ => ?_) | (refine Hold.intro fun _ => ?_) | (refine And.intro ?_ ?_))
      · exact tle_chain rfl (by simp [okAll, okv])
      · exact HLe.refl _
    · simp -dsimp []
      repeat' (first | omega | (simp -dsimp [E107, ri, cellp, ints, hp']) | (refine Also.intro ?_ fun _ => ?_) | (refine Hold.intro fun _ => ?_) | (refine And.intro ?_ ?_))
theorem ok107 : FnOK Try.prog 107 (.pure busS) := pure_fn (E := E107) rfl LOK.nil (ok := []) (fn := Try.f107) (by kernel_rfl) (by kernel_rfl) (by kernel_rfl) (by kernel_rfl) rfl (fun _ _ => by simp) b107
/-- The reference's count, up to the k-th. -/
def bsdTo (d : Du) (x y : Int) (l : List Du) : Nat → Int
  | 0 => bus1 d x y
  | k + 1 => if (duAt l k).p = d.p then bsdTo d x y l k + (bus1 (duAt l k) x y - bus1 (duAt l k) (max x d.a) (min y d.b)) else bsdTo d x y l k
theorem bsd_to (d : Du) (x y : Int) (l : List Du) : ∀ k, k ≤ l.length → bsd d x y (l.drop k) (bsdTo d x y l k) = bsd d x y l (bus1 d x y)
  | 0, _ => rfl
  | k + 1, hk => by
    have ih := bsd_to d x y l k (by omega)
    rw [List.drop_eq_getElem_cons (show k < l.length by omega), bsd] at ih
    have e : l[k]'(by omega) = duAt l k := by simp [duAt, List.getD, show k < l.length by omega]
    rw [e] at ih
    rw [← ih, bsdTo]
theorem bsd_end (d : Du) (x y : Int) (l : List Du) : bsdTo d x y l l.length = bsd d x y l (bus1 d x y) := by
  have := bsd_to d x y l l.length (Nat.le_refl _)
  rw [List.drop_length] at this; exact this
theorem bus_bd {d : Du} (h : VDu d) {x y : Int} (hx : -100000 ≤ x ∧ x ≤ 100000) (hy : -100000 ≤ y ∧ y ≤ 100000) : 0 ≤ bus1 d x y ∧ bus1 d x y ≤ 200000 := by
  unfold VDu at h; unfold bus1; omega
theorem bsdTo_bd {d : Du} (hd : VDu d) {l : List Du} (hl : Val l) {x y : Int} (hx : -100000 ≤ x ∧ x ≤ 100000) (hy : -100000 ≤ y ∧ y ≤ 100000) : ∀ k, k ≤ l.length → -(200000 * ((k : Int) + 1)) ≤ bsdTo d x y l k ∧ bsdTo d x y l k ≤ 200000 * ((k : Int) + 1)
  | 0, _ => by have := bus_bd hd hx hy; simp only [bsdTo]; omega
  | k + 1, hk => by
    have ih := bsdTo_bd hd hl hx hy k (by omega)
    have hz : VDu (duAt l k) := by
      have : duAt l k = l[k]'(by omega) := by simp [duAt, List.getD, show k < l.length by omega]
      rw [this]; exact hl _ (List.getElem_mem _)
    have b1 := bus_bd hz hx hy
    have b2 := bus_bd hz (x := max x d.a) (y := min y d.b) (by unfold VDu at hd; omega) (by unfold VDu at hd; omega)
    simp only [bsdTo]
    split <;> omega
@[simp] def beE (d : List Du × Du × Int × Int) : List V := [.sl 3 (d.1.map Du.row), .agg d.2.1.row, .int .i64 d.2.2.1, .int .i64 d.2.2.2]
theorem beE_inj (a b : List Du × Du × Int × Int) (h : beE a = beE b) : a = b := by
  obtain ⟨a1, a2, a3, a4⟩ := a; obtain ⟨b1, b2, b3, b4⟩ := b
  simp only [beE, List.cons.injEq, V.sl.injEq, V.agg.injEq, V.int.injEq, true_and, and_true] at h
  rw [mapRow_inj Du.row_inj h.1, Du.row_inj _ _ h.2.1, h.2.2.1, h.2.2.2]
theorem beE_dec (l : List Du) (d : Du) (x y : Int) : decC beE [.sl 3 (l.map Du.row), .agg [.int .i64 d.p, .int .i64 d.a, .int .i64 d.b], .int .i64 x, .int .i64 y] = (l, d, x, y) := decC_eq beE_inj (l, d, x, y)
structure BeP (e : List Du × Du × Int × Int) : Prop where
  n : e.1.length ≤ 1000
  l : Val e.1
  d : VDu e.2.1
  x : -10000 ≤ e.2.2.1 ∧ e.2.2.1 ≤ 10000
  y : -10000 ≤ e.2.2.2 ∧ e.2.2.2 ≤ 10000
noncomputable abbrev besS : PSpec := mkP beE BeP fun d => .int .i64 (bsd d.2.1 d.2.2.1 d.2.2.2 d.1 (bus1 d.2.1 d.2.2.1 d.2.2.2))
noncomputable abbrev E98 : Env := { P := Try.prog, fn := tbl [(107, .pure busS)], own := [], key := 9800, nt := 58 }
theorem b98 : PureBody E98 [] Try.f98 besS := by
  refine pb ?_
  rintro ⟨l, d, x, y⟩ ⟨hn, hl, hd, hx, hy⟩
  simp only at hn hl hd hx hy
  have hE := bsd_end d x y l
  have hdd := hd
  unfold VDu at hdd
  have p0 : BsP (d, d.p, x, y) := ⟨hd, by simp only; omega, by simp only; omega⟩
  have hre := bsE_dec d d.p x y
  simp -dsimp [Try.f98, E98, Du.row]
  repeat' (first | omega | (simp -dsimp [E98, ri, cellp, ints, Du.row, hre, p0]) | (refine Also.intro ?_ fun _ => ?_) | (refine Hold.intro fun _ => ?_) | (refine And.intro ?_ ?_))
  refine awp_loop [19, 20, 21, 22, 25, 26, 27, 28, 11, 29, 30, 31, 32, 33, 34, 35, 36, 37, 38, 39, 40, 41, 42, 43, 44, 45, 46, 47, 48, 49, 50, 51, 52, 53, 54, 55, 56, 9, 23, 24, 10] (fun k : { k : Nat // k ≤ l.length } => [(10, (true, .int .i64 k.1)), (9, (true, .int .i64 (bsdTo d x y l k.1)))]) (fun k => hps [(9811, { base := k.1, blks := [] }), (9805, { base := 0, blks := [{ z := 3, els := [d.row], ty := 66 }] })] noH) (fun k => l.length - k.1) ⟨0, by omega⟩ ?_ ?_ ?_
  · simp [okAll, okv, bsdTo]
  · exact (by (try simp -dsimp only [hpush_noH, hpush_hps, hps_over]); refine hle_hps ?_; simp -dsimp [allK, Du.row]; repeat' (first | (refine And.intro ?_ ?_) | (refine sLe.same ?_ ?_ <;> (simp; done)) | (refine sLe.clear ?_ ?_ <;> (first | (simp; done) | (simp; omega))) | (refine sLe.drop 1 ?_ ?_ ?_ <;> (simp; done))))
  rintro ⟨k, hk⟩
  dsimp only
  by_cases hk1 : k < l.length
  · have hki : (k : Int) < l.length := by omega
    have wk : IntKind.wrap .i64 ((k : Int) + 1) = (k + 1 : Nat) := wrap_id (by omega) (by omega)
    obtain ⟨z, hz⟩ : ∃ z, l[k]? = some z := ⟨_, List.getElem?_eq_getElem hk1⟩
    have hz' : l[k] = z := (List.getElem?_eq_some_iff.1 hz).2
    have hza : duAt l k = z := by simp [duAt, List.getD, hz]
    have hzv : VDu z := by rw [← hz']; exact hl _ (List.getElem_mem hk1)
    have hbd := bsdTo_bd hd hl (x := x) (y := y) (by omega) (by omega) k hk
    have hS : bsdTo d x y l (k + 1) = if z.p = d.p then bsdTo d x y l k + (bus1 z x y - bus1 z (max x d.a) (min y d.b)) else bsdTo d x y l k := by rw [bsdTo, hza]
    by_cases hp : z.p = d.p
    · rw [if_pos hp] at hS
      have b1 := bus_bd hzv (x := x) (y := y) (by omega) (by omega)
      have b2 := bus_bd hzv (x := max x d.a) (y := min y d.b) (by omega) (by omega)
      have p1 : BsP (z, d.p, x, y) := ⟨hzv, by simp only; omega, by simp only; omega⟩
      have p2 : BsP (z, d.p, max x d.a, min y d.b) := ⟨hzv, by simp only; omega, by simp only; omega⟩
      have d1 := bsE_dec z d.p x y
      have d2 := bsE_dec z d.p (max x d.a) (min y d.b)
      rw [hp] at d1 d2
      have e1 : (if d.b < y then d.b else y) = min y d.b := by split <;> omega
      have e2 : (if x < d.a then d.a else x) = max x d.a := by split <;> omega
      generalize hu1 : bus1 z x y = u1 at *
      generalize hu2 : bus1 z (max x d.a) (min y d.b) = u2 at *
      generalize max x d.a = mx at *
      generalize min y d.b = mn at *
      have w1 : IntKind.wrap .i64 (u1 - u2) = u1 - u2 := wrap_id (by omega) (by omega)
      have w2 : IntKind.wrap .i64 (bsdTo d x y l k + (u1 - u2)) = bsdTo d x y l (k + 1) := by rw [hS]; exact wrap_id (by omega) (by omega)
      simp -dsimp [hki]
      repeat' (first | omega | (simp -dsimp [E98, ri, cellp, ints, Du.row, hki, hk1, hz, hz', hp, d1, d2, p1, p2, e1, e2, hu1, hu2, w1, w2, wk]) | (refine Also.intro ?_ fun _ => ?_) | (refine Hold.intro fun _ => ?_) | (refine And.intro ?_ ?_))
      refine ⟨k + 1, tle_chain rfl ?_, ?_, by omega, by omega⟩
      · simp [okAll, okv]
      · exact (by (try simp -dsimp only [hpush_noH, hpush_hps, hps_over]); refine hle_hps ?_; simp -dsimp [allK, Du.row]; repeat' (first | (refine And.intro ?_ ?_) | (refine sLe.same ?_ ?_ <;> (simp; done)) | (refine sLe.clear ?_ ?_ <;> (first | (simp; done) | (simp; omega))) | (refine sLe.drop 1 ?_ ?_ ?_ <;> (simp; done))))
    · rw [if_neg hp] at hS
      have hp' : (z.p = d.p) = False := eq_false hp
      simp -dsimp [hki]
      repeat' (first | omega | (simp -dsimp [E98, ri, cellp, ints, Du.row, hki, hk1, hz, hz', hp', wk]) | (refine Also.intro ?_ fun _ => ?_) | (refine Hold.intro fun _ => ?_) | (refine And.intro ?_ ?_))
      refine ⟨k + 1, tle_chain rfl ?_, ?_, by omega, by omega⟩
      · simp [okAll, okv, hS]
      · exact (by (try simp -dsimp only [hpush_noH, hpush_hps, hps_over]); refine hle_hps ?_; simp -dsimp [allK, Du.row]; repeat' (first | (refine And.intro ?_ ?_) | (refine sLe.same ?_ ?_ <;> (simp; done)) | (refine sLe.clear ?_ ?_ <;> (first | (simp; done) | (simp; omega))) | (refine sLe.drop 1 ?_ ?_ ?_ <;> (simp; done))))
  · have hkn : ¬ (k : Int) < l.length := by omega
    have hke : k = l.length := by omega
    subst hke
    simp -dsimp [hkn]
    repeat' (first | omega | (simp -dsimp [E98, ri, cellp, ints, hkn, hE]) | (refine Also.intro ?_ fun _ => ?_) | (refine Hold.intro fun _ => ?_) | (refine And.intro ?_ ?_))
theorem ok98 : FnOK Try.prog 98 (.pure besS) := pure_fn (E := E98) rfl (.cons ok107 .nil) (ok := []) (fn := Try.f98) (by kernel_rfl) (by kernel_rfl) (by kernel_rfl) (by kernel_rfl) rfl (fun _ _ => by simp) b98
end Go.Sx
end
section
/- Crew: the reference's rules that a duty breaks; its check. No conditions. -/
set_option linter.unusedSimpArgs false
set_option linter.unusedSectionVars false
set_option maxRecDepth 100000
set_option maxHeartbeats 2000000
namespace Go.Sx
open Go.Proofs
attribute [local irreducible] HLe

@[simp] def rrE (d : Ro × List Du × Du) : List V := [.agg d.1.row, .sl 3 (d.2.1.map Du.row), .agg d.2.2.row]
theorem rrE_inj (a b : Ro × List Du × Du) (h : rrE a = rrE b) : a = b := by
  obtain ⟨a1, a2, a3⟩ := a; obtain ⟨b1, b2, b3⟩ := b
  simp only [rrE, List.cons.injEq, V.agg.injEq, V.sl.injEq, true_and, and_true] at h
  rw [Ro.row_inj _ _ h.1, mapRow_inj Du.row_inj h.2.1, Du.row_inj _ _ h.2.2]
theorem rrE_dec (r : Ro) (l : List Du) (d : Du) : decC rrE [.agg [.sl 3 (r.ppl.map Pn.row), .int .i64 r.lng, .int .i64 r.rst, .int .i64 r.win, .int .i64 r.tot, .int .i64 r.rcn], .sl 3 (l.map Du.row), .agg [.int .i64 d.p, .int .i64 d.a, .int .i64 d.b]] = (r, l, d) := decC_eq rrE_inj (r, l, d)
structure RrP (e : Ro × List Du × Du) : Prop where
  f : e.1.Fit
  n : e.2.1.length ≤ 1000
  l : Val e.2.1
  d : VDu e.2.2
noncomputable abbrev rstRS : PSpec := mkP rrE RrP fun e => .bool (rrest e.1 e.2.1 e.2.2)
def rsB (r : Ro) (d x : Du) : Bool := decide (x.p = d.p) && decide (d.a < x.b + r.rst) && decide (x.a < d.b + r.rst)
theorem rrest_ok {r : Ro} {l : List Du} {d : Du} (h : ∀ j (h : j < l.length), rsB r d l[j] = false) : rrest r l d = true := by
  unfold rrest
  rw [List.all_eq_true]
  intro x hx
  obtain ⟨j, hj, rfl⟩ := List.getElem_of_mem hx
  have := h j hj
  unfold rsB at this
  rw [this]; rfl
theorem rrest_no {r : Ro} {l : List Du} {d x : Du} (hx : x ∈ l) (h : rsB r d x = true) : rrest r l d = false := by
  unfold rrest
  rw [List.all_eq_false]
  unfold rsB at h
  exact ⟨x, hx, by rw [h]; decide⟩
noncomputable abbrev E73 : Env := { P := Try.prog, fn := tbl [], own := [], key := 7300, nt := 44 }
theorem b73 : PureBody E73 [] Try.f73 rstRS := by
  refine pb ?_
  rintro ⟨r, l, d⟩ ⟨hf, hn, hl, hd⟩
  simp only at hf hn hl hd
  have hr := hf.rst
  unfold VDu at hd
  simp -dsimp [Try.f73, E73, Ro.row, pplV, Du.row]
  repeat' (first | omega | (simp -dsimp [E73, ri, cellp, ints, Ro.row, pplV, Du.row]) | (refine Also.intro ?_ fun _ => ?_) | (refine Hold.intro fun _ => ?_) | (refine And.intro ?_ ?_))
  refine awp_loop [9, 10, 11, 12, 15, 16, 17, 18, 8, 19, 20, 21, 22, 23, 24, 25, 26, 27, 28, 29, 30, 31, 32, 33, 34, 35, 36, 37, 38, 39, 40, 41, 42, 43, 6, 13, 14, 7] (fun k : { k : Nat // k ≤ l.length ∧ ∀ j (h : j < l.length), j < k → rsB r d l[j] = false } => [(7, (true, .int .i64 k.1))]) (fun k => hps [(7308, { base := k.1, blks := [] }), (7305, { base := 0, blks := [{ z := 3, els := [d.row], ty := 66 }] }), (7303, { base := 0, blks := [{ z := 6, els := [r.row], ty := 33 }] })] noH) (fun k => l.length - k.1) ⟨0, by omega, fun _ _ h => by omega⟩ ?_ ?_ ?_
  · simp [okAll, okv]
  · exact (by (try simp -dsimp only [hpush_noH, hpush_hps, hps_over]); refine hle_hps ?_; simp -dsimp [allK, Ro.row, pplV, Du.row]; repeat' (first | (refine And.intro ?_ ?_) | (refine sLe.same ?_ ?_ <;> (simp; done)) | (refine sLe.clear ?_ ?_ <;> (first | (simp; done) | (simp; omega))) | (refine sLe.drop 1 ?_ ?_ ?_ <;> (simp; done))))
  rintro ⟨k, hk, hal⟩
  dsimp only
  by_cases hk1 : k < l.length
  · have hki : (k : Int) < l.length := by omega
    have wk : IntKind.wrap .i64 ((k : Int) + 1) = (k + 1 : Nat) := wrap_id (by omega) (by omega)
    obtain ⟨x, hx⟩ : ∃ x, l[k]? = some x := ⟨_, List.getElem?_eq_getElem hk1⟩
    have hx' : l[k] = x := (List.getElem?_eq_some_iff.1 hx).2
    have hxm : x ∈ l := by rw [← hx']; exact List.getElem_mem hk1
    have hxv := hl x hxm
    have w1 : IntKind.wrap .i64 (x.b + r.rst) = x.b + r.rst := wrap_id (by omega) (by omega)
    have w2 : IntKind.wrap .i64 (d.b + r.rst) = d.b + r.rst := wrap_id (by omega) (by omega)
    have hD : rsB r d x = (decide (x.p = d.p) && decide (d.a < x.b + r.rst) && decide (x.a < d.b + r.rst)) := rfl
    by_cases hall : (x.p = d.p ∧ d.a < x.b + r.rst) ∧ x.a < d.b + r.rst
    · obtain ⟨⟨h1, h2⟩, h3⟩ := hall
      have hz := rrest_no hxm (by rw [hD, decide_eq_true h1, decide_eq_true h2, decide_eq_true h3]; rfl)
      simp -dsimp [hki]
      repeat' (first | omega | (simp -dsimp [E73, ri, cellp, ints, Ro.row, pplV, Du.row, hki, hk1, hx, hx', w1, w2, h1, h2, h3, hz]) | (refine Also.intro ?_ fun _ => ?_) | (refine Hold.intro fun _ => ?_) | (refine And.intro ?_ ?_))
    · have hb : rsB r d x = false := by rw [hD]; simpa [and_assoc] using hall
      have hgo : ∀ (P : Prop), (¬ ((x.p = d.p ∧ d.a < x.b + r.rst) ∧ x.a < d.b + r.rst) → P) → P := fun P h => h hall
      by_cases h1 : x.p = d.p
      · by_cases h2 : d.a < x.b + r.rst
        · have h3 : (x.a < d.b + r.rst) = False := eq_false fun h => hall ⟨⟨h1, h2⟩, h⟩
          simp -dsimp [hki]
          repeat' (first | omega | (simp -dsimp [E73, ri, cellp, ints, Ro.row, pplV, Du.row, hki, hk1, hx, hx', w1, w2, h1, h2, h3, wk]) | (refine Also.intro ?_ fun _ => ?_) | (refine Hold.intro fun _ => ?_) | (refine And.intro ?_ ?_))
          refine ⟨k + 1, tle_chain rfl ?_, ?_, ⟨by omega, fun j h hj => ?_⟩, by omega⟩
          · simp [okAll, okv]
          · exact (by (try simp -dsimp only [hpush_noH, hpush_hps, hps_over]); refine hle_hps ?_; simp -dsimp [allK, Ro.row, pplV, Du.row]; repeat' (first | (refine And.intro ?_ ?_) | (refine sLe.same ?_ ?_ <;> (simp; done)) | (refine sLe.clear ?_ ?_ <;> (first | (simp; done) | (simp; omega))) | (refine sLe.drop 1 ?_ ?_ ?_ <;> (simp; done))))
          · by_cases hjk : j = k
            · subst hjk; rw [hx', hb]
            · exact hal j h (by omega)
        · replace h2 : (d.a < x.b + r.rst) = False := eq_false h2
          simp -dsimp [hki]
          repeat' (first | omega | (simp -dsimp [E73, ri, cellp, ints, Ro.row, pplV, Du.row, hki, hk1, hx, hx', w1, w2, h1, h2, wk]) | (refine Also.intro ?_ fun _ => ?_) | (refine Hold.intro fun _ => ?_) | (refine And.intro ?_ ?_))
          refine ⟨k + 1, tle_chain rfl ?_, ?_, ⟨by omega, fun j h hj => ?_⟩, by omega⟩
          · simp [okAll, okv]
          · exact (by (try simp -dsimp only [hpush_noH, hpush_hps, hps_over]); refine hle_hps ?_; simp -dsimp [allK, Ro.row, pplV, Du.row]; repeat' (first | (refine And.intro ?_ ?_) | (refine sLe.same ?_ ?_ <;> (simp; done)) | (refine sLe.clear ?_ ?_ <;> (first | (simp; done) | (simp; omega))) | (refine sLe.drop 1 ?_ ?_ ?_ <;> (simp; done))))
          · by_cases hjk : j = k
            · subst hjk; rw [hx', hb]
            · exact hal j h (by omega)
      · replace h1 : (x.p = d.p) = False := eq_false h1
        simp -dsimp [hki]
        repeat' (first | omega | (simp -dsimp [E73, ri, cellp, ints, Ro.row, pplV, Du.row, hki, hk1, hx, hx', w1, w2, h1, wk]) | (refine Also.intro ?_ fun _ => ?_) | (refine Hold.intro fun _ => ?_) | (refine And.intro ?_ ?_))
        refine ⟨k + 1, tle_chain rfl ?_, ?_, ⟨by omega, fun j h hj => ?_⟩, by omega⟩
        · simp [okAll, okv]
        · exact (by (try simp -dsimp only [hpush_noH, hpush_hps, hps_over]); refine hle_hps ?_; simp -dsimp [allK, Ro.row, pplV, Du.row]; repeat' (first | (refine And.intro ?_ ?_) | (refine sLe.same ?_ ?_ <;> (simp; done)) | (refine sLe.clear ?_ ?_ <;> (first | (simp; done) | (simp; omega))) | (refine sLe.drop 1 ?_ ?_ ?_ <;> (simp; done))))
        · by_cases hjk : j = k
          · subst hjk; rw [hx', hb]
          · exact hal j h (by omega)
  · have hkn : ¬ (k : Int) < l.length := by omega
    have hz := rrest_ok (r := r) (d := d) fun j h => hal j h (by omega)
    simp -dsimp [hkn]
    repeat' (first | omega | (simp -dsimp [E73, ri, cellp, ints, hkn, hz]) | (refine Also.intro ?_ fun _ => ?_) | (refine Hold.intro fun _ => ?_) | (refine And.intro ?_ ?_))
theorem ok73 : FnOK Try.prog 73 (.pure rstRS) := pure_fn (E := E73) rfl LOK.nil (ok := []) (fn := Try.f73) (by kernel_rfl) (by kernel_rfl) (by kernel_rfl) (by kernel_rfl) rfl (fun _ _ => by simp) b73
noncomputable abbrev rcnRS : PSpec := mkP rrE RrP fun e => .bool (rrec e.1 e.2.1 e.2.2)
def rcB (r : Ro) (d x : Du) : Bool := decide (x.p = d.p) && decide (x.b ≤ d.a) && decide (d.a - r.rcn ≤ x.b)
theorem rrec_any (r : Ro) (l : List Du) (d : Du) : rrec r l d = (decide (d.a ≤ r.rcn) || l.any (rcB r d)) := rfl
theorem any_none {α : Type} {p : α → Bool} {l : List α} (h : ∀ j (h : j < l.length), p l[j] = false) : l.any p = false := by
  rw [List.any_eq_false]
  intro g hg
  obtain ⟨j, hj, rfl⟩ := List.getElem_of_mem hg
  simp [h j hj]
noncomputable abbrev E75 : Env := { P := Try.prog, fn := tbl [], own := [], key := 7500, nt := 50 }
theorem b75 : PureBody E75 [] Try.f75 rcnRS := by
  refine pb ?_
  rintro ⟨r, l, d⟩ ⟨hf, hn, hl, hd⟩
  simp only at hf hn hl hd
  have hr := hf.rcn
  unfold VDu at hd
  have hR := rrec_any r l d
  by_cases h0 : d.a ≤ r.rcn
  · rw [decide_eq_true h0, Bool.true_or] at hR
    simp -dsimp [Try.f75, E75, Ro.row, pplV, Du.row]
    repeat' (first | omega | (simp -dsimp [E75, ri, cellp, ints, Ro.row, pplV, Du.row, h0, hR]) | (refine Also.intro ?_ fun _ => ?_) | (refine Hold.intro fun _ => ?_) | (refine And.intro ?_ ?_))
  rw [decide_eq_false h0, Bool.false_or] at hR
  have h0' : (d.a ≤ r.rcn) = False := eq_false h0
  simp -dsimp [Try.f75, E75, Ro.row, pplV, Du.row]
  repeat' (first | omega | (simp -dsimp [E75, ri, cellp, ints, Ro.row, pplV, Du.row, h0']) | (refine Also.intro ?_ fun _ => ?_) | (refine Hold.intro fun _ => ?_) | (refine And.intro ?_ ?_))
  refine awp_loop [13, 14, 15, 16, 19, 20, 21, 22, 23, 24, 25, 26, 27, 28, 29, 30, 31, 32, 33, 34, 35, 36, 37, 38, 39, 40, 41, 42, 43, 44, 45, 46, 47, 48, 49, 6, 17, 18, 7] (fun k : { k : Nat // k ≤ l.length ∧ ∀ j (h : j < l.length), j < k → rcB r d l[j] = false } => [(7, (true, .int .i64 k.1))]) (fun k => _) (fun k => l.length - k.1) ⟨0, by omega, fun _ _ h => by omega⟩ ?_ (HLe.refl _) ?_
  · simp [okAll, okv]
  rintro ⟨k, hk, hal⟩
  dsimp only
  by_cases hk1 : k < l.length
  · have hki : (k : Int) < l.length := by omega
    have wk : IntKind.wrap .i64 ((k : Int) + 1) = (k + 1 : Nat) := wrap_id (by omega) (by omega)
    obtain ⟨x, hx⟩ : ∃ x, l[k]? = some x := ⟨_, List.getElem?_eq_getElem hk1⟩
    have hx' : l[k] = x := (List.getElem?_eq_some_iff.1 hx).2
    have hxm : x ∈ l := by rw [← hx']; exact List.getElem_mem hk1
    have w1 : IntKind.wrap .i64 (d.a - r.rcn) = d.a - r.rcn := wrap_id (by omega) (by omega)
    have hD : rcB r d x = (decide (x.p = d.p) && decide (x.b ≤ d.a) && decide (d.a - r.rcn ≤ x.b)) := rfl
    by_cases hall : (x.p = d.p ∧ x.b ≤ d.a) ∧ d.a - r.rcn ≤ x.b
    · obtain ⟨⟨h1, h2⟩, h3⟩ := hall
      have hz : rrec r l d = true := by
        rw [hR, List.any_eq_true]
        exact ⟨x, hxm, by rw [hD, decide_eq_true h1, decide_eq_true h2, decide_eq_true h3]; rfl⟩
      simp -dsimp [hki]
      repeat' (first | omega | (simp -dsimp [E75, ri, cellp, ints, Ro.row, pplV, Du.row, hki, hk1, hx, hx', w1, h1, h2, h3, hz]) | (refine Also.intro ?_ fun _ => ?_) | (refine Hold.intro fun _ => ?_) | (refine And.intro ?_ ?_))
    · have hb : rcB r d x = false := by rw [hD]; simpa [and_assoc] using hall
      by_cases h1 : x.p = d.p
      · by_cases h2 : x.b ≤ d.a
        · have h3 : (d.a - r.rcn ≤ x.b) = False := eq_false fun h => hall ⟨⟨h1, h2⟩, h⟩
          have h3' : (d.a ≤ x.b + r.rcn) = False := eq_false fun h => hall ⟨⟨h1, h2⟩, by omega⟩
          simp -dsimp [hki]
          repeat' (first | omega | (simp -dsimp [E75, ri, cellp, ints, Ro.row, pplV, Du.row, hki, hk1, hx, hx', w1, h1, h2, h3, h3', wk]) | (refine Also.intro ?_ fun _ => ?_) | (refine Hold.intro fun _ => ?_) | (refine And.intro ?_ ?_))
          refine ⟨k + 1, tle_chain rfl ?_, HLe.refl _, ⟨by omega, fun j h hj => ?_⟩, by omega⟩
          · simp [okAll, okv]
          · by_cases hjk : j = k
            · subst hjk; rw [hx', hb]
            · exact hal j h (by omega)
        · replace h2 : (x.b ≤ d.a) = False := eq_false h2
          simp -dsimp [hki]
          repeat' (first | omega | (simp -dsimp [E75, ri, cellp, ints, Ro.row, pplV, Du.row, hki, hk1, hx, hx', w1, h1, h2, wk]) | (refine Also.intro ?_ fun _ => ?_) | (refine Hold.intro fun _ => ?_) | (refine And.intro ?_ ?_))
          refine ⟨k + 1, tle_chain rfl ?_, HLe.refl _, ⟨by omega, fun j h hj => ?_⟩, by omega⟩
          · simp [okAll, okv]
          · by_cases hjk : j = k
            · subst hjk; rw [hx', hb]
            · exact hal j h (by omega)
      · replace h1 : (x.p = d.p) = False := eq_false h1
        simp -dsimp [hki]
        repeat' (first | omega | (simp -dsimp [E75, ri, cellp, ints, Ro.row, pplV, Du.row, hki, hk1, hx, hx', w1, h1, wk]) | (refine Also.intro ?_ fun _ => ?_) | (refine Hold.intro fun _ => ?_) | (refine And.intro ?_ ?_))
        refine ⟨k + 1, tle_chain rfl ?_, HLe.refl _, ⟨by omega, fun j h hj => ?_⟩, by omega⟩
        · simp [okAll, okv]
        · by_cases hjk : j = k
          · subst hjk; rw [hx', hb]
          · exact hal j h (by omega)
  · have hkn : ¬ (k : Int) < l.length := by omega
    have hz : rrec r l d = false := by rw [hR]; exact any_none fun j h => hal j h (by omega)
    simp -dsimp [hkn]
    repeat' (first | omega | (simp -dsimp [E75, ri, cellp, ints, hkn, hz]) | (refine Also.intro ?_ fun _ => ?_) | (refine Hold.intro fun _ => ?_) | (refine And.intro ?_ ?_))
theorem ok75 : FnOK Try.prog 75 (.pure rcnRS) := pure_fn (E := E75) rfl LOK.nil (ok := []) (fn := Try.f75) (by kernel_rfl) (by kernel_rfl) (by kernel_rfl) (by kernel_rfl) rfl (fun _ _ => by simp) b75
end Go.Sx
end
section
/- Crew: the reference's windows, its check of duties. No conditions. -/
set_option linter.unusedSimpArgs false
set_option linter.unusedSectionVars false
set_option maxRecDepth 100000
set_option maxHeartbeats 2000000
namespace Go.Sx
open Go.Proofs
attribute [local irreducible] HLe

noncomputable abbrev winRS : PSpec := mkP rrE RrP fun e => .bool (rwin e.1 e.2.1 e.2.2)
def wnB (r : Ro) (l : List Du) (d z : Du) : Bool := !decide (z.p = d.p) || (decide (bsd d z.a (z.a + r.win) l (bus1 d z.a (z.a + r.win)) ≤ r.tot) && decide (bsd d (max 0 (z.b - r.win)) (max 0 (z.b - r.win) + r.win) l (bus1 d (max 0 (z.b - r.win)) (max 0 (z.b - r.win) + r.win)) ≤ r.tot))
theorem rwin_all (r : Ro) (l : List Du) (d : Du) : rwin r l d = (l ++ [d]).all (wnB r l d) := rfl
noncomputable abbrev E74 : Env := { P := Try.prog, fn := tbl [(98, .pure besS)], own := [11], key := 7400, nt := 69, frz := [(1, [3, 50003, 5, 50005])] }
theorem b74 : PureBody E74 [(1, ([3], [[0, 1, 2, 3, 4, 5, 6]]))] Try.f74 winRS := by
  refine pb ?_
  rintro ⟨r, l, d⟩ ⟨hf, hn, hl, hd⟩
  simp only at hf hn hl hd
  have hw := hf.win
  have ht := hf.tot
  have hR := rwin_all r l d
  have hap : List.map Du.row l ++ [[V.int .i64 d.p, V.int .i64 d.a, V.int .i64 d.b]] = List.map Du.row (l ++ [d]) := by rw [List.map_append]; rfl
  have hlen : (l ++ [d]).length = l.length + 1 := by simp
  have hv : Val (l ++ [d]) := fun x hx => by
    rcases List.mem_append.1 hx with h | h
    · exact hl x h
    · exact List.mem_singleton.1 h ▸ hd
  generalize l ++ [d] = L at *
  have hLl : L.length ≤ 1001 := by omega
  simp -dsimp [Try.f74, E74, FreeAt, Ro.row, pplV, Du.row]
  repeat' (first | omega | (simp -dsimp [E74, ri, cellp, ints, FreeAt, Ro.row, pplV, Du.row, hap, hn]) | (refine Also.intro ?_ fun _ => ?_) | (refine Hold.intro fun _ => ?_) | (refine And.intro ?_ ?_))
  refine awp_loop [17, 18, 19, 20, 23, 24, 25, 26, 27, 28, 29, 30, 31, 32, 33, 34, 35, 36, 37, 38, 39, 40, 41, 42, 43, 44, 9, 10, 45, 46, 47, 48, 49, 50, 51, 52, 53, 54, 55, 56, 57, 58, 59, 60, 61, 62, 63, 64, 65, 66, 67, 68, 6, 21, 22, 8] (fun k : { k : Nat // k ≤ L.length ∧ ∀ j (h : j < L.length), j < k → wnB r l d L[j] = true } => [(8, (true, .int .i64 k.1))]) (fun k => _) (fun k => L.length - k.1) ⟨0, by omega, fun _ _ h => by omega⟩ ?_ (HLe.refl _) ?_
  · simp [okAll, okv]
  rintro ⟨k, hk, hal⟩
  dsimp only
  by_cases hk1 : k < L.length
  · have hki : (k : Int) < L.length := by omega
    have hkl : k < l.length + 1 := by omega
    have hkli : (k : Int) < l.length + 1 := by omega
    have wk : IntKind.wrap .i64 ((k : Int) + 1) = (k + 1 : Nat) := wrap_id (by omega) (by omega)
    obtain ⟨x, hx⟩ : ∃ x, L[k]? = some x := ⟨_, List.getElem?_eq_getElem hk1⟩
    have hx' : L[k] = x := (List.getElem?_eq_some_iff.1 hx).2
    have hxm : x ∈ L := by rw [← hx']; exact List.getElem_mem hk1
    have hxv := hv x hxm
    have hD : wnB r l d x = (!decide (x.p = d.p) || (decide (bsd d x.a (x.a + r.win) l (bus1 d x.a (x.a + r.win)) ≤ r.tot) && decide (bsd d (max 0 (x.b - r.win)) (max 0 (x.b - r.win) + r.win) l (bus1 d (max 0 (x.b - r.win)) (max 0 (x.b - r.win) + r.win)) ≤ r.tot))) := rfl
    by_cases hp : x.p = d.p
    · rw [decide_eq_true hp, Bool.not_true, Bool.false_or] at hD
      have w1 : IntKind.wrap .i64 (x.b - r.win) = x.b - r.win := wrap_id (by omega) (by omega)
      have w2 : IntKind.wrap .i64 (x.a + r.win) = x.a + r.win := wrap_id (by omega) (by omega)
      obtain ⟨m, hm⟩ : ∃ m, max 0 (x.b - r.win) = m := ⟨_, rfl⟩
      have e1 : (if 0 < x.b - r.win then x.b - r.win else 0) = m := by rw [← hm]; split <;> omega
      have e1' : (if r.win < x.b then x.b - r.win else 0) = m := by rw [← hm]; split <;> omega
      have hmb : 0 ≤ m ∧ m ≤ 2000 := by omega
      rw [hm] at hD
      have w3 : IntKind.wrap .i64 (m + r.win) = m + r.win := wrap_id (by omega) (by omega)
      have p1 : BeP (l, d, x.a, x.a + r.win) := ⟨hn, hl, hd, by simp only; omega, by simp only; omega⟩
      have p2 : BeP (l, d, m, m + r.win) := ⟨hn, hl, hd, by simp only; omega, by simp only; omega⟩
      generalize hu1 : bsd d x.a (x.a + r.win) l (bus1 d x.a (x.a + r.win)) = u1 at *
      generalize hu2 : bsd d m (m + r.win) l (bus1 d m (m + r.win)) = u2 at *
      by_cases c1 : u1 ≤ r.tot
      · have c1' : (r.tot < u1) = False := eq_false (by omega)
        by_cases c2 : u2 ≤ r.tot
        · have c2' : (r.tot < u2) = False := eq_false (by omega)
          simp -dsimp [hki]
          repeat' (first | omega | (simp -dsimp [E74, ri, cellp, ints, Ro.row, pplV, Du.row, hki, hk1, hkl, hkli, hlen, hx, hx', hp, w1, w2, e1, e1', w3, beE_dec, p1, p2, hu1, hu2, c1', c2', wk]) | (refine Also.intro ?_ fun _ => ?_) | (refine Hold.intro fun _ => ?_) | (refine And.intro ?_ ?_))
          refine ⟨k + 1, tle_chain rfl ?_, HLe.refl _, ⟨by omega, fun j h hj => ?_⟩, by omega⟩
          · simp [okAll, okv]
          · by_cases hjk : j = k
            · subst hjk; rw [hx', hD, decide_eq_true c1, decide_eq_true c2]; rfl
            · exact hal j (by omega) (by omega)
        · have c2' : r.tot < u2 := by omega
          have hz : rwin r l d = false := by
            rw [hR, List.all_eq_false]; exact ⟨x, hxm, by rw [hD, decide_eq_false c2]; simp⟩
          simp -dsimp [hki]
          repeat' (first | omega | (simp -dsimp [E74, ri, cellp, ints, Ro.row, pplV, Du.row, hki, hk1, hkl, hkli, hlen, hx, hx', hp, w1, w2, e1, e1', w3, beE_dec, p1, p2, hu1, hu2, c1', c2', hz]) | (refine Also.intro ?_ fun _ => ?_) | (refine Hold.intro fun _ => ?_) | (refine And.intro ?_ ?_))
      · have c1' : r.tot < u1 := by omega
        have hz : rwin r l d = false := by
          rw [hR, List.all_eq_false]; exact ⟨x, hxm, by rw [hD, decide_eq_false c1]; simp⟩
        simp -dsimp [hki]
        repeat' (first | omega | (simp -dsimp [E74, ri, cellp, ints, Ro.row, pplV, Du.row, hki, hk1, hkl, hkli, hlen, hx, hx', hp, w1, w2, e1, e1', w3, beE_dec, p1, p2, hu1, hu2, c1', hz]) | (refine Also.intro ?_ fun _ => ?_) | (refine Hold.intro fun _ => ?_) | (refine And.intro ?_ ?_))
    · replace hp : (x.p = d.p) = False := eq_false hp
      have hb : wnB r l d x = true := by rw [hD, decide_eq_false (by rw [hp]; exact id)]; rfl
      simp -dsimp [hki]
      repeat' (first | omega | (simp -dsimp [E74, ri, cellp, ints, Ro.row, pplV, Du.row, hki, hk1, hkl, hkli, hlen, hx, hx', hp, wk]) | (refine Also.intro ?_ fun _ => ?_) | (refine Hold.intro fun _ => ?_) | (refine And.intro ?_ ?_))
      refine ⟨k + 1, tle_chain rfl ?_, HLe.refl _, ⟨by omega, fun j h hj => ?_⟩, by omega⟩
      · simp [okAll, okv]
      · by_cases hjk : j = k
        · subst hjk; rw [hx', hb]
        · exact hal j (by omega) (by omega)
  · have hkn : ¬ (k : Int) < L.length := by omega
    have hkn2 : ((k : Int) < l.length + 1) = False := eq_false (by omega)
    have hz : rwin r l d = true := by
      rw [hR, List.all_eq_true]
      intro z hz
      obtain ⟨j, hj, rfl⟩ := List.getElem_of_mem hz
      exact hal j hj (by omega)
    simp -dsimp [hkn]
    repeat' (first | omega | (simp -dsimp [E74, ri, cellp, ints, hkn, hkn2, hlen, hz]) | (refine Also.intro ?_ fun _ => ?_) | (refine Hold.intro fun _ => ?_) | (refine And.intro ?_ ?_))
theorem ok74 : FnOK Try.prog 74 (.pure winRS) := pure_fn (E := E74) rfl (.cons ok98 .nil) (ok := [(1, ([3], [[0, 1, 2, 3, 4, 5, 6]]))]) (fn := Try.f74) (by kernel_rfl) (by kernel_rfl) (by kernel_rfl) (by kernel_rfl) rfl (fun _ _ => by simp) b74
noncomputable abbrev brkRS : PSpec := mkP rrE RrP fun e => ints (rbrk e.1 e.2.1 e.2.2)
noncomputable abbrev E53 : Env := { P := Try.prog, fn := tbl [(73, .pure rstRS), (74, .pure winRS), (75, .pure rcnRS)], own := [], key := 5300, nt := 44 }
theorem b53 : PureBody E53 [] Try.f53 brkRS := by
  refine pb ?_
  rintro ⟨r, l, d⟩ hP
  have hP : RrP (r, l, d) := hP
  have hd := hP.d
  unfold VDu at hd
  simp only at hd
  have hK : rbrk r l d = (if rrest r l d = true then [] else [3]) ++ (if r.lng < d.b - d.a then [4] else []) ++ (if rwin r l d = true then [] else [5]) ++ (if rrec r l d = true then [] else [6]) := rfl
  have w1 : IntKind.wrap .i64 (d.b - d.a) = d.b - d.a := wrap_id (by omega) (by omega)
  generalize h1 : rrest r l d = c1 at hK
  generalize h3 : rwin r l d = c3 at hK
  generalize h4 : rrec r l d = c4 at hK
  by_cases h2 : r.lng < d.b - d.a
  · rw [if_pos h2] at hK
    cases c1 <;> cases c3 <;> cases c4
    all_goals
      simp at hK
      simp -dsimp [Try.f53, E53, Ro.row, pplV, Du.row]
      repeat' (first | omega | (simp -dsimp [E53, ri, cellp, ints, Ro.row, pplV, Du.row, rrE_dec, hP, h1, h2, h3, h4, w1, hK]) | (refine Also.intro ?_ fun _ => ?_) | (refine Hold.intro fun _ => ?_) | (refine And.intro ?_ ?_))
  · rw [if_neg h2] at hK
    replace h2 : (r.lng < d.b - d.a) = False := eq_false h2
    cases c1 <;> cases c3 <;> cases c4
    all_goals
      simp at hK
      simp -dsimp [Try.f53, E53, Ro.row, pplV, Du.row]
      repeat' (first | omega | (simp -dsimp [E53, ri, cellp, ints, Ro.row, pplV, Du.row, rrE_dec, hP, h1, h2, h3, h4, w1, hK]) | (refine Also.intro ?_ fun _ => ?_) | (refine Hold.intro fun _ => ?_) | (refine And.intro ?_ ?_))
theorem ok53 : FnOK Try.prog 53 (.pure brkRS) := pure_fn (E := E53) rfl (.cons ok73 (.cons ok74 (.cons ok75 .nil))) (ok := []) (fn := Try.f53) (by kernel_rfl) (by kernel_rfl) (by kernel_rfl) (by kernel_rfl) rfl (fun _ _ => by simp) b53
end Go.Sx
end
section
/- Crew: the reference's check of duties. No conditions. -/
set_option linter.unusedSimpArgs false
set_option linter.unusedSectionVars false
set_option maxRecDepth 100000
set_option maxHeartbeats 2000000
namespace Go.Sx
open Go.Proofs
attribute [local irreducible] HLe

theorem ckR_no {r : Ro} {l : List Du} (h : r.ok = false) : chkE r l = (0, 100) := by simp [chkE, h]
theorem ckR_many {r : Ro} {l : List Du} (h : r.ok = true) (h2 : 60 < l.length) : chkE r l = (0, 2) := by simp [chkE, h, h2]
theorem ckR_bad {r : Ro} {l : List Du} (h : r.ok = true) (h2 : ¬ 60 < l.length) {k : Nat} (hk : k < l.length) (hp : duOk r l k = false) (hall : Rt r l k) : chkE r l = ((k : Int), 101) := by
  have : badDu r l = k := idxZ_at _ _ (by simpa using hk) (by simp [hp]) fun j _ hj => by simp [hall j hj]
  simp [chkE, h, h2, this]
theorem ckR_ok {r : Ro} {l : List Du} (h : r.ok = true) (h2 : ¬ 60 < l.length) (hall : Rt r l l.length) : chkE r l = (0, 0) := by
  have : badDu r l = -1 := badDu_of hall
  simp [chkE, h, h2, this]
theorem duOk_eq (r : Ro) (l : List Du) (i : Nat) (d : Du) (hd : duAt l i = d) : duOk r l i = (perB r d.p && strB d.a d.b && (decide (i = 0) || decide ((duAt l (i - 1)).a ≤ d.a)) && (brk r (own (l.take i) d.p) d).isEmpty) := by
  subst hd; rfl
noncomputable abbrev ckRS : PSpec := mkP chE ChP fun d => .tup [.int .i64 (chkE d.1 d.2).1, .int .i64 (chkE d.1 d.2).2]
noncomputable abbrev E24 : Env := { P := Try.prog, fn := tbl [(15, .pure rosS), (51, .pure perS), (52, .pure tikS), (53, .pure brkRS)], own := [], key := 2400, nt := 76 }
theorem b24 : PureBody E24 [] Try.f24 ckRS := by
  refine pb ?_
  rintro ⟨r, l⟩ ⟨hp, hl⟩
  simp only at hp hl
  cases hok : r.ok
  · have hz := ckR_no (l := l) hok
    simp -dsimp [Try.f24, E24, Ro.row, pplV, roE_dec, hp, hok]
    repeat' (first | omega | (simp -dsimp [E24, ri, cellp, ints, Ro.row, pplV, roE_dec, hp, hok, hz]) | (refine Also.intro ?_ fun _ => ?_) | (refine Hold.intro fun _ => ?_) | (refine And.intro ?_ ?_))
  by_cases h60 : 60 < l.length
  · have h60i : (60 : Int) < l.length := by omega
    have hz := ckR_many (l := l) hok h60
    simp -dsimp [Try.f24, E24, Ro.row, pplV, roE_dec, hp, hok]
    repeat' (first | omega | (simp -dsimp [E24, ri, cellp, ints, Ro.row, pplV, roE_dec, hp, hok, hz, h60i]) | (refine Also.intro ?_ fun _ => ?_) | (refine Hold.intro fun _ => ?_) | (refine And.intro ?_ ?_))
  have hf := Ro.ok_iff.1 hok
  have h60i : ((60 : Int) < l.length) = False := eq_false (by omega)
  simp -dsimp [Try.f24, E24, Ro.row, pplV, roE_dec, hp, hok]
  repeat' (first | omega | (simp -dsimp [E24, ri, cellp, ints, Ro.row, pplV, roE_dec, hp, hok, h60i]) | (refine Also.intro ?_ fun _ => ?_) | (refine Hold.intro fun _ => ?_) | (refine And.intro ?_ ?_))
  refine awp_loop [16, 17, 18, 19, 22, 23, 24, 25, 26, 27, 28, 29, 30, 31, 32, 33, 34, 35, 36, 37, 38, 39, 40, 41, 42, 43, 44, 45, 46, 47, 48, 49, 50, 51, 52, 53, 54, 55, 56, 57, 58, 59, 60, 61, 62, 63, 64, 65, 66, 67, 68, 69, 70, 71, 72, 73, 74, 75, 4, 5, 20, 21, 7] (fun k : { k : Nat // k ≤ l.length ∧ Rt r l k } => [(7, (true, .int .i64 k.1))]) (fun _ => hps [(2402, { base := 0, blks := [{ z := 6, els := [r.row], ty := 33 }] })] noH) (fun k => l.length - k.1) ⟨0, by omega, fun _ h => by omega⟩ ?_ ?_ ?_
  · simp [okAll, okv]
  · exact (by (try simp -dsimp only [hpush_noH, hpush_hps, hps_over]); refine hle_hps ?_; simp -dsimp [allK, Ro.row, pplV]; repeat' (first | (refine And.intro ?_ ?_) | (refine sLe.same ?_ ?_ <;> (simp; done)) | (refine sLe.clear ?_ ?_ <;> (first | (simp; done) | (simp; omega))) | (refine sLe.drop 1 ?_ ?_ ?_ <;> (simp; done))))
  rintro ⟨k, hk, hall⟩
  dsimp only
  by_cases hk1 : k < l.length
  case neg =>
    have hkn : ¬ (k : Int) < l.length := by omega
    have hke : k = l.length := by omega
    subst hke
    have hz := ckR_ok hok h60 hall
    simp -dsimp [hkn]
    repeat' (first | omega | (simp -dsimp [E24, ri, cellp, ints, hkn, hz]) | (refine Also.intro ?_ fun _ => ?_) | (refine Hold.intro fun _ => ?_) | (refine And.intro ?_ ?_))
  have hki : (k : Int) < l.length := by omega
  obtain ⟨d, hd⟩ : ∃ d, l[k]? = some d := ⟨_, List.getElem?_eq_getElem hk1⟩
  have hd' : l[k] = d := get_of hd hk1
  have hda : duAt l k = d := by simp [duAt, List.getD, hd]
  have hD := duOk_eq r l k d hda
  have hv := Rt.val (by omega) hall
  have hdj := Rt.disj (r := r) hf.rst.1 d.p (by omega) hall
  have hlk : (l.take k).length ≤ 1000 := by simp; omega
  have hmt : List.take k (l.map Du.row) = (l.take k).map Du.row := by rw [List.map_take]
  have hkl : k ≤ l.length := by omega
  generalize l.take k = lk at *
  have hreq : VDu d → rbrk r lk d = brk r (own lk d.p) d := fun h => rbrk_eq hf hdj (own_val hv d.p) h
  have hRP : VDu d → RrP (r, lk, d) := fun h => ⟨hf, hlk, hv, h⟩
  by_cases hk0 : k = 0
  · subst hk0
    have hne : (l = []) = False := eq_false (by rintro rfl; simp at hk1)
    have w1 : IntKind.wrap .i64 1 = 1 := wrap_id (by omega) (by omega)
    cases c1 : perB r d.p
    · have hz := ckR_bad hok h60 hk1 (by rw [hD, c1]; rfl) hall
      simp -dsimp [hki]
      repeat' (first | omega | (simp -dsimp [E24, ri, cellp, ints, Ro.row, pplV, Du.row, hki, hk1, hkl, hd, hd', hmt, peE_dec, hp, w1, hne, c1, hz]) | (refine Also.intro ?_ fun _ => ?_) | (refine Hold.intro fun _ => ?_) | (refine And.intro ?_ ?_))
    cases c2 : strB d.a d.b
    · have hz := ckR_bad hok h60 hk1 (by rw [hD, c1, c2]; rfl) hall
      simp -dsimp [hki]
      repeat' (first | omega | (simp -dsimp [E24, ri, cellp, ints, Ro.row, pplV, Du.row, hki, hk1, hkl, hd, hd', hmt, peE_dec, hp, w1, hne, c1, c2, hz]) | (refine Also.intro ?_ fun _ => ?_) | (refine Hold.intro fun _ => ?_) | (refine And.intro ?_ ?_))
    have hVd : VDu d := strB_iff.1 c2
    have hreq := hreq hVd
    have hRP := hRP hVd
    generalize hB : brk r (own lk d.p) d = B at hD hreq
    cases B with
    | nil =>
      simp -dsimp [hki]
      repeat' (first | omega | (simp -dsimp [E24, ri, cellp, ints, Ro.row, pplV, Du.row, hki, hk1, hkl, hd, hd', hmt, peE_dec, hp, w1, hne, c1, c2, rrE_dec, hRP, hreq]) | (refine Also.intro ?_ fun _ => ?_) | (refine Hold.intro fun _ => ?_) | (refine And.intro ?_ ?_))
      refine ⟨0 + 1, tle_chain rfl ?_, HLe.refl _, ⟨by omega, fun i hi => ?_⟩, by omega⟩
      · simp [okAll, okv, w1]
      · by_cases hik : i = 0
        · subst hik; rw [hD, c1, c2]; simp
        · exact hall i (by omega)
    | cons b bs =>
      have hz := ckR_bad hok h60 hk1 (by rw [hD]; simp) hall
      have hbl : ((bs.length : Int) + 1 ≤ 0) = False := eq_false (by omega)
      simp -dsimp [hki]
      repeat' (first | omega | (simp -dsimp [E24, ri, cellp, ints, Ro.row, pplV, Du.row, hki, hk1, hkl, hd, hd', hmt, peE_dec, hp, w1, hne, c1, c2, rrE_dec, hRP, hreq, hbl, hz]) | (refine Also.intro ?_ fun _ => ?_) | (refine Hold.intro fun _ => ?_) | (refine And.intro ?_ ?_))
  · obtain ⟨j, rfl⟩ : ∃ j, k = j + 1 := ⟨k - 1, by omega⟩
    have hj1 : j < l.length := by omega
    obtain ⟨e, he⟩ : ∃ e, l[j]? = some e := ⟨_, List.getElem?_eq_getElem hj1⟩
    have he' : l[j] = e := get_of he hj1
    have hde : duAt l (j + 1 - 1) = e := by simp [duAt, List.getD, he]
    have wj : IntKind.wrap .i64 (((j + 1 : Nat) : Int) - 1) = (j : Nat) := by rw [wrap_id (by omega) (by omega)]; omega
    have wj2 : IntKind.wrap .i64 (j : Int) = (j : Nat) := wrap_id (by omega) (by omega)
    have hji : (j : Int) < l.length := by omega
    have hpos : (0 : Int) < (j : Int) + 1 := by omega
    have hneq : j < l.length := hj1
    have w1 : IntKind.wrap .i64 ((j : Int) + 1 + 1) = (j : Int) + 1 + 1 := wrap_id (by omega) (by omega)
    have hd3 : (decide (j + 1 = 0) || decide ((duAt l (j + 1 - 1)).a ≤ d.a)) = decide (e.a ≤ d.a) := by rw [hde]; simp
    cases c1 : perB r d.p
    · have hz := ckR_bad hok h60 hk1 (by rw [hD, c1]; rfl) hall
      simp -dsimp [hki]
      repeat' (first | omega | (simp -dsimp [E24, ri, cellp, ints, Ro.row, pplV, Du.row, hki, hk1, hkl, hd, hd', hmt, peE_dec, hp, w1, hji, hj1, he, he', wj, wj2, hpos, hneq, c1, hz]) | (refine Also.intro ?_ fun _ => ?_) | (refine Hold.intro fun _ => ?_) | (refine And.intro ?_ ?_))
    cases c2 : strB d.a d.b
    · have hz := ckR_bad hok h60 hk1 (by rw [hD, c1, c2]; rfl) hall
      simp -dsimp [hki]
      repeat' (first | omega | (simp -dsimp [E24, ri, cellp, ints, Ro.row, pplV, Du.row, hki, hk1, hkl, hd, hd', hmt, peE_dec, hp, w1, hji, hj1, he, he', wj, wj2, hpos, hneq, c1, c2, hz]) | (refine Also.intro ?_ fun _ => ?_) | (refine Hold.intro fun _ => ?_) | (refine And.intro ?_ ?_))
    by_cases c3 : d.a < e.a
    · have hz := ckR_bad hok h60 hk1 (by rw [hD, c1, c2, hd3, decide_eq_false (by omega : ¬ e.a ≤ d.a)]; simp) hall
      simp -dsimp [hki]
      repeat' (first | omega | (simp -dsimp [E24, ri, cellp, ints, Ro.row, pplV, Du.row, hki, hk1, hkl, hd, hd', hmt, peE_dec, hp, w1, hji, hj1, he, he', wj, wj2, hpos, hneq, c1, c2, c3, hz]) | (refine Also.intro ?_ fun _ => ?_) | (refine Hold.intro fun _ => ?_) | (refine And.intro ?_ ?_))
    have hd4 : decide (e.a ≤ d.a) = true := decide_eq_true (by omega)
    replace c3 : (d.a < e.a) = False := eq_false c3
    have hVd : VDu d := strB_iff.1 c2
    have hreq := hreq hVd
    have hRP := hRP hVd
    generalize hB : brk r (own lk d.p) d = B at hD hreq
    cases B with
    | nil =>
      simp -dsimp [hki]
      repeat' (first | omega | (simp -dsimp [E24, ri, cellp, ints, Ro.row, pplV, Du.row, hki, hk1, hkl, hd, hd', hmt, peE_dec, hp, w1, hji, hj1, he, he', wj, wj2, hpos, hneq, c3, c1, c2, rrE_dec, hRP, hreq]) | (refine Also.intro ?_ fun _ => ?_) | (refine Hold.intro fun _ => ?_) | (refine And.intro ?_ ?_))
      refine ⟨(j + 1) + 1, tle_chain rfl ?_, HLe.refl _, ⟨by omega, fun i hi => ?_⟩, by omega⟩
      · simp [okAll, okv, w1]
      · by_cases hik : i = (j + 1)
        · subst hik; rw [hD, c1, c2, hd3, hd4]; simp
        · exact hall i (by omega)
    | cons b bs =>
      have hz := ckR_bad hok h60 hk1 (by rw [hD]; simp) hall
      have hbl : ((bs.length : Int) + 1 ≤ 0) = False := eq_false (by omega)
      simp -dsimp [hki]
      repeat' (first | omega | (simp -dsimp [E24, ri, cellp, ints, Ro.row, pplV, Du.row, hki, hk1, hkl, hd, hd', hmt, peE_dec, hp, w1, hji, hj1, he, he', wj, wj2, hpos, hneq, c3, c1, c2, rrE_dec, hRP, hreq, hbl, hz]) | (refine Also.intro ?_ fun _ => ?_) | (refine Hold.intro fun _ => ?_) | (refine And.intro ?_ ?_))
theorem ok24 : FnOK Try.prog 24 (.pure ckRS) := pure_fn (E := E24) rfl (.cons ok15 (.cons ok51 (.cons ok52 (.cons ok53 .nil)))) (ok := []) (fn := Try.f24) (by kernel_rfl) (by kernel_rfl) (by kernel_rfl) (by kernel_rfl) rfl (fun _ _ => by simp) b24
end Go.Sx
end
