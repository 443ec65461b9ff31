/- A part of a proof; no conditions. -/
import Derived.Test.YtnpdjaikmdagmaaP13
import Derived.Test.YtnpdjaikmdagmaaP11
import Derived.Test.YtnpdjaikmdagmaaP14
set_option linter.unusedSimpArgs false
set_option linter.unusedVariables false
set_option linter.unusedSectionVars false
section
/- Crew, plain: easier rules forbid nothing new; a duty of who may fly a call can be put behind all others; the center with any fuel between. No conditions. -/
set_option linter.unusedSimpArgs false
set_option linter.unusedSectionVars false
namespace Go.Sx

/-! fuel -/
theorem lin_ge {A B lo hi f : Int} (h1 : 0 ≤ A + lo * B) (h2 : 0 ≤ A + hi * B) (a : lo ≤ f) (b : f ≤ hi) : 0 ≤ A + f * B := by
  rcases Int.le_total 0 B with h | h
  · have := Int.mul_le_mul_of_nonneg_right a h; omega
  · have := Int.mul_le_mul_of_nonpos_right b h; omega
theorem ct_lo (c : Ca) (l : List Gu) (s : List Int) (L f : Int) : L * wgt c l f ≤ mom c l s f ↔ 0 ≤ (c.emp * c.arm + mTo c l s l.length - L * (c.emp + wTo l l.length)) + f * (c.farm - L) := by
  unfold wgt mom
  rw [Int.mul_add, Int.mul_sub, Int.mul_comm f L]; omega
theorem ct_hi (c : Ca) (l : List Gu) (s : List Int) (L f : Int) : mom c l s f ≤ L * wgt c l f ↔ 0 ≤ (L * (c.emp + wTo l l.length) - (c.emp * c.arm + mTo c l s l.length)) + f * (L - c.farm) := by
  unfold wgt mom
  rw [Int.mul_add, Int.mul_sub, Int.mul_comm f L]; omega
theorem between_lo {c : Ca} {l : List Gu} {s : List Int} {L lo hi f : Int} (h1 : L * wgt c l lo ≤ mom c l s lo) (h2 : L * wgt c l hi ≤ mom c l s hi) (a : lo ≤ f) (b : f ≤ hi) : L * wgt c l f ≤ mom c l s f := by
  rw [ct_lo] at *; exact lin_ge h1 h2 a b
theorem between_hi {c : Ca} {l : List Gu} {s : List Int} {L lo hi f : Int} (h1 : mom c l s lo ≤ L * wgt c l lo) (h2 : mom c l s hi ≤ L * wgt c l hi) (a : lo ≤ f) (b : f ≤ hi) : mom c l s f ≤ L * wgt c l f := by
  rw [ct_hi] at *; exact lin_ge h1 h2 a b
theorem wgt_pos {c : Ca} {l : List Gu} {f : Sp} (h : LFit c l f) {x : Int} (hx : 0 ≤ x) : 0 < wgt c l x := by
  have := (wTo_bd h.gf l.length (Nat.le_refl _)).1
  have := h.cf.emp
  unfold wgt; omega
theorem fuel_bal {c : Ca} {l : List Gu} {f : Sp} {s : List Int} (hb : balB c l f s = true) {x : Int} (h1 : f.lo ≤ x) (h2 : x ≤ f.hi) : ctB c (wgt c l x) (mom c l s x) = true := by
  unfold balB ctB at hb
  simp only [Bool.and_eq_true, decide_eq_true_eq] at hb
  unfold ctB
  rw [decide_eq_true_eq]
  exact ⟨between_lo hb.1.1 hb.2.1 h1 h2, between_hi hb.1.2 hb.2.2 h1 h2⟩
theorem fuel_part {c : Ca} {l : List Gu} {f : Sp} {s : List Int} (hb : balB c l f s = true) {x y : Int} (h1 : f.lo ≤ x) (h2 : x ≤ f.hi) (h3 : f.lo ≤ y) (h4 : y ≤ f.hi) : balB c l ⟨min x y, max x y⟩ s = true := by
  unfold balB
  rw [Bool.and_eq_true]
  exact ⟨fuel_bal hb (by simp only; omega) (by simp only; omega), fuel_bal hb (by simp only; omega) (by simp only; omega)⟩
theorem le_floor {L m w : Int} (hw : 0 < w) (h : L ≤ m / w) : L * w ≤ m := by
  have := Int.mul_le_mul_of_nonneg_right h (Int.le_of_lt hw)
  have := Int.ediv_mul_le m (Int.ne_of_gt hw)
  omega
theorem fuel_center {c : Ca} {l : List Gu} {f : Sp} {s : List Int} (h : LFit c l f) {x : Int} (h1 : f.lo ≤ x) (h2 : x ≤ f.hi) : (cenL c l f s).lo * wgt c l x ≤ mom c l s x ∧ mom c l s x ≤ (cenL c l f s).hi * wgt c l x := by
  have w1 := wgt_pos h h.ff.1
  have w2 := wgt_pos h (x := f.hi) (by have := h.ff; omega)
  constructor
  · refine between_lo (le_floor w1 ?_) (le_floor w2 ?_) h1 h2
    · unfold cenL; simp only; omega
    · unfold cenL; simp only; omega
  · refine between_hi ?_ ?_ h1 h2
    · have := le_floor (L := -(cenL c l f s).hi) (m := -mom c l s f.lo) w1 (by unfold cenL; simp only; omega)
      rw [Int.neg_mul] at this; omega
    · have := le_floor (L := -(cenL c l f s).hi) (m := -mom c l s f.hi) w2 (by unfold cenL; simp only; omega)
      rw [Int.neg_mul] at this; omega
/-- The program's floor. -/
theorem floor_prog (m w : Int) (hw : 0 < w) : (if m.tmod w < 0 then m.tdiv w - 1 else m.tdiv w) = m / w := by
  rcases Int.le_total 0 m with h | h
  · rw [Int.tdiv_eq_ediv_of_nonneg h, Int.tmod_eq_emod_of_nonneg h, if_neg (by have := Int.emod_nonneg m (Int.ne_of_gt hw); omega)]
  · obtain ⟨k, rfl⟩ : ∃ k, m = -k := ⟨-m, by omega⟩
    have hk : 0 ≤ k := by omega
    rw [Int.neg_tmod, Int.neg_tdiv, Int.tdiv_eq_ediv_of_nonneg hk, Int.tmod_eq_emod_of_nonneg hk]
    have e := Int.mul_ediv_add_emod k w
    have e2 := Int.emod_nonneg k (Int.ne_of_gt hw)
    have e3 := Int.emod_lt_of_pos k hw
    generalize k / w = q at *
    generalize k % w = t at *
    split
    · rename_i h0
      symm
      rw [Int.ediv_eq_iff_of_pos hw]
      constructor
      · rw [Int.sub_mul, Int.neg_mul, Int.mul_comm q w]; omega
      · rw [Int.sub_mul, Int.neg_mul, Int.mul_comm q w]; omega
    · rename_i h0
      symm
      rw [Int.ediv_eq_iff_of_pos hw]
      constructor
      · rw [Int.neg_mul, Int.mul_comm q w]; omega
      · rw [Int.neg_mul, Int.mul_comm q w]; omega
/-- The reference's floor. -/
theorem floor_ref (m w : Int) (hw : 0 < w) (hm : m < 0) : -((-m + w - 1).tdiv w) = m / w := by
  obtain ⟨k, rfl⟩ : ∃ k, m = -k := ⟨-m, by omega⟩
  rw [Int.tdiv_eq_ediv_of_nonneg (by omega)]
  symm
  rw [Int.ediv_eq_iff_of_pos hw]
  have e := Int.mul_ediv_add_emod (- -k + w - 1) w
  have e2 := Int.emod_nonneg (- -k + w - 1) (Int.ne_of_gt hw)
  have e3 := Int.emod_lt_of_pos (- -k + w - 1) hw
  generalize (- -k + w - 1) / w = q at *
  generalize (- -k + w - 1) % w = t at *
  constructor
  · rw [Int.neg_mul, Int.mul_comm q w]; omega
  · rw [Int.neg_mul, Int.mul_comm q w]; omega

/-! easier rules -/
structure Eas (r r' : Ro) : Prop where
  ppl : r'.ppl = r.ppl
  win : r'.win = r.win
  lng : r.lng ≤ r'.lng
  rst : r'.rst ≤ r.rst
  tot : r.tot ≤ r'.tot
  rcn : r.rcn ≤ r'.rcn
section
variable (srt : List Du → List Du)
theorem totW_mono {l : List Du} {W T T' : Int} (h : T ≤ T') (ht : totW srt l W T = true) : totW srt l W T' = true := by
  unfold totW at *
  rw [List.all_eq_true] at *
  intro d hd
  have := ht d hd
  simp only [Bool.and_eq_true, decide_eq_true_eq] at *
  omega
theorem restW_mono {r r' : Ro} (he : Eas r r') (h1 : 0 ≤ r'.rst) (h2 : r.rst ≤ 2000) {x y : Du} (hx : -9223372036854775808 ≤ x.b ∧ x.b ≤ 2000) (hy : -9223372036854775808 ≤ y.b ∧ y.b ≤ 2000) (h : restW r x y = true) : restW r' x y = true := by
  have := he.rst
  unfold restW at *
  rw [show wr (y.b + r.rst) = y.b + r.rst from wrap_id (by omega) (by omega), show wr (x.b + r.rst) = x.b + r.rst from wrap_id (by omega) (by omega)] at h
  rw [show wr (y.b + r'.rst) = y.b + r'.rst from wrap_id (by omega) (by omega), show wr (x.b + r'.rst) = x.b + r'.rst from wrap_id (by omega) (by omega)]
  split at h
  · rw [if_pos (by assumption)]; simp only [decide_eq_true_eq] at *; omega
  · rw [if_neg (by assumption)]; simp only [decide_eq_true_eq] at *; omega
theorem recW_mono {r r' : Ro} (he : Eas r r') {o : List Du} {x : Du} (h : recW r o x = true) : recW r' o x = true := by
  have := he.rcn
  unfold recW at *
  simp only [Bool.or_eq_true, decide_eq_true_eq, List.any_eq_true] at *
  rcases h with h | ⟨d, hd, h⟩
  · left; omega
  · right; refine ⟨d, hd, ?_⟩
    unfold nearW at *; simp only [decide_eq_true_eq] at *; omega
/-- Ends of duties that are no greater than the last tick. -/
def Low (l : List Du) : Prop := ∀ d ∈ l, -9223372036854775808 ≤ d.b ∧ d.b ≤ 2000
theorem brkW_mono {r r' : Ro} (he : Eas r r') (h1 : 0 ≤ r'.rst) (h2 : r.rst ≤ 2000) {o : List Du} {x : Du} (ho : Low o) (hx : -9223372036854775808 ≤ x.b ∧ x.b ≤ 2000) {n : Int} (h : n ∈ brkW srt r' o x) : n ∈ brkW srt r o x := by
  unfold brkW at *
  simp only [List.mem_append] at *
  rcases h with ((h | h) | h) | h
  · left; left; left
    split at h
    · rename_i h3
      rw [if_pos]; exact h
      rw [List.any_eq_true] at *
      obtain ⟨d, hd, h4⟩ := h3
      refine ⟨d, hd, ?_⟩
      cases h5 : restW r d x
      · rfl
      · rw [restW_mono he h1 h2 (ho d hd) hx h5] at h4; exact h4
    · simp at h
  · left; left; right
    split at h
    · rw [if_pos]; exact h
      have := he.lng; omega
    · simp at h
  · left; right
    split at h
    · simp at h
    · rename_i h3
      rw [if_neg]; exact h
      intro h4
      exact h3 (he.win ▸ totW_mono srt he.tot h4)
  · right
    split at h
    · simp at h
    · rename_i h3
      rw [if_neg]; exact h
      intro h4
      exact h3 (recW_mono he h4)
theorem brkW_mono_nil {r r' : Ro} (he : Eas r r') (h1 : 0 ≤ r'.rst) (h2 : r.rst ≤ 2000) {o : List Du} {x : Du} (ho : Low o) (hx : -9223372036854775808 ≤ x.b ∧ x.b ≤ 2000) (h : (brkW srt r o x).isEmpty = true) : (brkW srt r' o x).isEmpty = true := by
  rw [List.isEmpty_iff] at *
  rw [List.eq_nil_iff_forall_not_mem] at *
  exact fun n hn => h n (brkW_mono srt he h1 h2 ho hx hn)
theorem strW_low {a b : Int} (h : strW a b = true) : b ≤ 2000 := by
  unfold strW at h; simp only [Bool.and_eq_true, decide_eq_true_eq] at h; exact h.2
/-- Duties that are right stay right. -/
theorem chkEW_easier {r r' : Ro} (he : Eas r r') (h1 : 0 ≤ r'.rst) (hok : r'.ok = true) {l : List Du} (hl : ∀ d ∈ l, -9223372036854775808 ≤ d.b) (h : (chkEW srt r l).2 = 0) : (chkEW srt r' l).2 = 0 := by
  unfold chkEW at *
  split at h
  · rename_i g1
    have hf := Ro.ok_iff.1 g1
    split at h
    · simp at h
    · rename_i g2
      split at h
      · simp at h
      · rename_i g3
        have hall : ∀ j, j < l.length → duOkW srt r l j = true := by
          intro j hj
          apply Classical.byContradiction
          intro hne
          have h0 := idxZ_any (List.range l.length) (fun i => !duOkW srt r l i)
          rw [decide_eq_false (by rw [badDuW] at g3; exact g3)] at h0
          have := (List.any_eq_false.1 h0.symm) j (List.mem_range.2 hj)
          simp at this; exact hne this
        have hlow : ∀ j, j < l.length → (duAt l j).b ≤ 2000 := fun j hj => by
          have := hall j hj
          unfold duOkW at this
          simp only [Bool.and_eq_true] at this
          exact strW_low this.1.1.2
        have hlo : Low l := fun d hd => by
          refine ⟨hl d hd, ?_⟩
          obtain ⟨j, hj, rfl⟩ := List.getElem_of_mem hd
          have := hlow j hj
          rwa [show duAt l j = l[j] by simp [duAt, List.getD, hj]] at this
        have hall' : ∀ j, j < l.length → duOkW srt r' l j = true := fun j hj => by
          have := hall j hj
          unfold duOkW at *
          simp only [Bool.and_eq_true] at *
          obtain ⟨⟨⟨a1, a2⟩, a3⟩, a4⟩ := this
          refine ⟨⟨⟨by rw [he.ppl]; exact a1, a2⟩, a3⟩, brkW_mono_nil srt he h1 hf.rst.2 ?_ ?_ a4⟩
          · intro d hd
            exact hlo d (List.mem_of_mem_take (own_mem.1 hd).1)
          · exact hlo _ (by rw [show duAt l j = l[j] by simp [duAt, List.getD, hj]]; exact List.getElem_mem hj)
        rw [if_pos hok, if_neg g2, if_neg]
        rw [badDuW, idxZ_none _ _ fun j hj => by simp at hj ⊢; exact hall' j hj]
        omega
  · simp at h
theorem chkEW_low {r : Ro} {l : List Du} (hl : ∀ d ∈ l, -9223372036854775808 ≤ d.b) (h : (chkEW srt r l).2 = 0) : Low l := by
  unfold chkEW at *
  split at h
  · split at h
    · simp at h
    · split at h
      · simp at h
      · rename_i g3
        intro d hd
        refine ⟨hl d hd, ?_⟩
        obtain ⟨j, hj, rfl⟩ := List.getElem_of_mem hd
        have hok : duOkW srt r l j = true := by
          apply Classical.byContradiction
          intro hne
          have h0 := idxZ_any (List.range l.length) (fun i => !duOkW srt r l i)
          rw [decide_eq_false (by rw [badDuW] at g3; exact g3)] at h0
          have := (List.any_eq_false.1 h0.symm) j (List.mem_range.2 hj)
          simp at this; exact hne this
        unfold duOkW at hok
        simp only [Bool.and_eq_true] at hok
        have := strW_low hok.1.1.2
        rwa [show duAt l j = l[j] by simp [duAt, List.getD, hj]] at this
  · simp at h
theorem whyW_mono {r r' : Ro} (he : Eas r r') (h1 : 0 ≤ r'.rst) (h2 : r.rst ≤ 2000) {l : List Du} {n : Int} {c : Cl} (hl : Low l) (hc : -9223372036854775808 ≤ c.b ∧ c.b ≤ 2000) {k : Int} (h : k ∈ whyW srt r' l n c) : k ∈ whyW srt r l n c := by
  have hp : pnAt r' n = pnAt r n := by unfold pnAt; rw [he.ppl]
  unfold whyW at *
  rw [hp] at h
  simp only [List.mem_append] at *
  rcases h with h | h
  · exact .inl h
  · exact .inr (brkW_mono srt he h1 h2 (fun d hd => hl d (own_mem.1 hd).1) hc h)
end

/-! one more duty, or two -/
theorem own_other {l : List Du} {d : Du} {n : Int} (h : d.p ≠ n) : own (l ++ [d]) n = own l n := by
  simp [own, List.filter_append, h]
theorem duAt_app {l : List Du} {m : List Du} {i : Nat} (h : i < l.length) : duAt (l ++ m) i = duAt l i := by
  simp [duAt, List.getD, List.getElem?_append_left h]
theorem duOk_app {r : Ro} {l m : List Du} {i : Nat} (h : i < l.length) : duOk r (l ++ m) i = duOk r l i := by
  unfold duOk
  rw [duAt_app h, List.take_append_of_le_length (by omega)]
  cases i with
  | zero => rfl
  | succ i => rw [show i + 1 - 1 = i by omega, duAt_app (by omega)]
theorem Rt.snoc {r : Ro} {l : List Du} {d : Du} (h : Rt r l l.length) (hp : 0 ≤ d.p ∧ d.p ≤ r.ppl.length - 1) (hd : 0 ≤ d.a ∧ d.a < d.b ∧ d.b ≤ 2000) (hl : l = [] ∨ (duAt l (l.length - 1)).a ≤ d.a) (hb : brk r (own l d.p) d = []) : Rt r (l ++ [d]) (l ++ [d]).length := by
  intro i hi
  simp at hi
  by_cases hil : i < l.length
  · rw [duOk_app hil]; exact h i hil
  · have : i = l.length := by omega
    subst this
    have e : duAt (l ++ [d]) l.length = d := by simp [duAt, List.getD]
    unfold duOk
    rw [e, List.take_left' rfl, hb]
    simp only [Bool.and_eq_true]
    refine ⟨⟨⟨decide_eq_true hp, strB_iff.2 hd⟩, ?_⟩, rfl⟩
    rcases hl with hl | hl
    · simp [hl]
    · by_cases h0 : l.length = 0
      · simp [h0]
      · rw [duAt_app (by omega)]
        simp [hl]
end Go.Sx
end
section
/- Crew: the center, what is loaded. No conditions. -/
set_option linter.unusedSimpArgs false
set_option linter.unusedSectionVars false
set_option maxRecDepth 100000
set_option maxHeartbeats 2000000
namespace Go.Sx
open Go.Proofs
attribute [local irreducible] awp
attribute [local irreducible] HLe

/-! fractions, rounded down -/
@[simp] def flE (d : Int × Int) : List V := [.int .i64 d.1, .int .i64 d.2]
theorem flE_inj (a b : Int × Int) (h : flE a = flE b) : a = b := by
  simp only [flE, List.cons.injEq, V.int.injEq, true_and, and_true] at h
  exact Prod.ext h.1 h.2
theorem flE_dec (a b : Int) : decC flE [.int .i64 a, .int .i64 b] = (a, b) := decC_eq flE_inj (a, b)
structure FlP (d : Int × Int) : Prop where
  n : Far0 d.1
  w : 0 < d.2 ∧ d.2 ≤ 1000000
noncomputable abbrev floS : PSpec := mkP flE FlP fun d => .int .i64 (d.1 / d.2)
theorem ediv_bd {m w : Int} (hw : 0 < w) (hm : Far0 m) : Far0 (m / w) := by
  unfold Far0 at *
  rcases Int.le_total 0 m with h | h
  · have h1 := Int.ediv_nonneg h (Int.le_of_lt hw)
    have h2 := Int.ediv_le_self w h
    omega
  · have h1 : m / w ≤ 0 := by
      have := Int.ediv_le_ediv hw h
      simpa using this
    have h2 : m ≤ m / w := by
      rw [Int.le_ediv_iff_mul_le hw]
      have := Int.mul_le_mul_of_nonpos_left (a := m) (b := w) (c := 1) h (by omega)
      omega
    omega
theorem floor_bd {m w : Int} (hw : 0 < w) (hm : Far0 m) : Far0 (m.tdiv w) ∨ m.tdiv w = m / w + 1 := by
  have h := floor_prog m w hw
  have hb := ediv_bd hw hm
  by_cases h0 : m.tmod w < 0
  · rw [if_pos h0] at h; right; omega
  · rw [if_neg h0] at h; left; rw [h]; exact hb
noncomputable abbrev E61 : Env := { P := Try.prog, fn := tbl [], own := [], key := 6100, nt := 16 }
theorem b61 : PureBody E61 [] Try.f61 floS := by
  refine pb ?_
  rintro ⟨m, w⟩ ⟨hm, hw⟩
  simp only at hm hw
  have hf := floor_prog m w hw.1
  have hb := ediv_bd hw.1 hm
  have hb2 := floor_bd hw.1 hm
  have hw0 : (w = 0) = False := eq_false (by omega)
  unfold Far0 at hm hb hb2
  generalize hq : m / w = q at *
  generalize ht : m.tdiv w = t at *
  generalize hu : m.tmod w = u at *
  have w1 : IntKind.wrap .i64 t = t := wrap_id (by omega) (by omega)
  by_cases h0 : u < 0
  · rw [if_pos h0] at hf
    have w2 : IntKind.wrap .i64 (t - 1) = q := by rw [wrap_id (by omega) (by omega)]; exact hf
    simp -dsimp [Try.f61, E61]
    repeat' (first | omega | (simp -dsimp [E61, ri, cellp, ints, hw0, ht, hu, hq, w1, w2, h0]) | (refine Also.intro ?_ fun _ => ?_) | (refine Hold.intro fun _ => ?_) | (refine And.intro ?_ ?_))
  · rw [if_neg h0] at hf
    have h0' : (u < 0) = False := eq_false h0
    simp -dsimp [Try.f61, E61]
    subst hf
    repeat' (first | omega | (simp -dsimp [E61, ri, cellp, ints, hw0, ht, hu, hq, w1, h0']) | (refine Also.intro ?_ fun _ => ?_) | (refine Hold.intro fun _ => ?_) | (refine And.intro ?_ ?_))
theorem ok61 : FnOK Try.prog 61 (.pure floS) := pure_fn (E := E61) rfl LOK.nil (ok := []) (fn := Try.f61) (by kernel_rfl) (by kernel_rfl) (by kernel_rfl) (by kernel_rfl) rfl (fun _ _ => by simp) b61
/-! the least and the greatest of two -/
@[simp] def twE (d : Int × Int) : List V := [.sl 1 [[.int .i64 d.1], [.int .i64 d.2]]]
theorem twE_inj (a b : Int × Int) (h : twE a = twE b) : a = b := by
  simp only [twE, List.cons.injEq, V.sl.injEq, V.int.injEq, true_and, and_true] at h
  exact Prod.ext h.1 h.2
theorem twE_dec (a b : Int) : decC twE [.sl 1 [[.int .i64 a], [.int .i64 b]]] = (a, b) := decC_eq twE_inj (a, b)
noncomputable abbrev minS : PSpec := mkP twE (fun _ => True) fun d => .int .i64 (min d.1 d.2)
noncomputable abbrev maxS : PSpec := mkP twE (fun _ => True) fun d => .int .i64 (max d.1 d.2)
noncomputable abbrev E62 : Env := { P := Try.prog, fn := tbl [], own := [], key := 6200, nt := 25 }
theorem b62 : PureBody E62 [] Try.f62 minS := by
  refine pb ?_
  rintro ⟨a, b⟩ _
  have hm : (if b < a then b else a) = min a b := by split <;> omega
  have w1 : IntKind.wrap .i64 (1 + 1) = 2 := wrap_id (by omega) (by omega)
  have w2 : IntKind.wrap .i64 2 = 2 := wrap_id (by omega) (by omega)
  simp -dsimp [Try.f62, E62]
  refine awp_loop [12, 13, 14, 15, 18, 19, 20, 21, 22, 23, 3, 16, 17, 4] (fun k : Bool => [(4, (true, .int .i64 (if k then 2 else 1))), (3, (true, .int .i64 (if k then min a b else a)))]) (fun _ => noH) (fun k => if k then 0 else 1) false ?_ (HLe.refl _) ?_
  · simp [okAll, okv]
  rintro (_ | _)
  · simp -dsimp []
    repeat' (first | omega | (simp -dsimp [E62, ri, cellp, ints, hm, w1, w2]) | (refine Also.intro ?_ fun _ => ?_) | (refine Hold.intro fun _ => ?_) | (refine And.intro ?_ ?_))
    · exact tle_chain rfl (by simp [okAll, okv])
    · exact HLe.refl _
  · simp -dsimp []
    repeat' (first | omega | (simp -dsimp [E62, ri, cellp, ints, hm]) | (refine Also.intro ?_ fun _ => ?_) | (refine Hold.intro fun _ => ?_) | (refine And.intro ?_ ?_))
theorem ok62 : FnOK Try.prog 62 (.pure minS) := pure_fn (E := E62) rfl LOK.nil (ok := []) (fn := Try.f62) (by kernel_rfl) (by kernel_rfl) (by kernel_rfl) (by kernel_rfl) rfl (fun _ _ => by simp) b62
noncomputable abbrev E63 : Env := { P := Try.prog, fn := tbl [], own := [], key := 6300, nt := 25 }
theorem b63 : PureBody E63 [] Try.f63 maxS := by
  refine pb ?_
  rintro ⟨a, b⟩ _
  have hm : (if a < b then b else a) = max a b := by split <;> omega
  have w1 : IntKind.wrap .i64 (1 + 1) = 2 := wrap_id (by omega) (by omega)
  have w2 : IntKind.wrap .i64 2 = 2 := wrap_id (by omega) (by omega)
  simp -dsimp [Try.f63, E63]
  refine awp_loop [12, 13, 14, 15, 18, 19, 20, 21, 22, 23, 3, 16, 17, 4] (fun k : Bool => [(4, (true, .int .i64 (if k then 2 else 1))), (3, (true, .int .i64 (if k then max a b else a)))]) (fun _ => noH) (fun k => if k then 0 else 1) false ?_ (HLe.refl _) ?_
  · simp [okAll, okv]
  rintro (_ | _)
  · simp -dsimp []
    repeat' (first | omega | (simp -dsimp [E63, ri, cellp, ints, hm, w1, w2]) | (refine Also.intro ?_ fun _ => ?_) | (refine Hold.intro fun _ => ?_) | (refine And.intro ?_ ?_))
    · exact tle_chain rfl (by simp [okAll, okv])
    · exact HLe.refl _
  · simp -dsimp []
    repeat' (first | omega | (simp -dsimp [E63, ri, cellp, ints, hm]) | (refine Also.intro ?_ fun _ => ?_) | (refine Hold.intro fun _ => ?_) | (refine And.intro ?_ ?_))
theorem ok63 : FnOK Try.prog 63 (.pure maxS) := pure_fn (E := E63) rfl LOK.nil (ok := []) (fn := Try.f63) (by kernel_rfl) (by kernel_rfl) (by kernel_rfl) (by kernel_rfl) rfl (fun _ _ => by simp) b63

/-! the center -/
def ceS1 (l : List Int) (s : Nat) : Site := { base := 0, blks := [{ z := 1, els := [[if l = [] then .nil else .bsl s 0 l.length]], ty := 24, cl := l.isEmpty }] }
def ceS2 (l : List Int) : Site := { base := 0, blks := if l = [] then [] else [{ z := 1, els := l.map ri, ty := 3 }] }
def ceL (s : List (Int × Int)) : List (Nat × Site) := [(2811, ceS1 (s.map (·.1)) 2836), (2812, ceS1 (s.map (·.2)) 2846), (2813, { base := s.length, blks := [] }), (2836, ceS2 (s.map (·.1))), (2846, ceS2 (s.map (·.2)))]
theorem ceL_keys (s : List (Int × Int)) : (ceL s).map (·.1) = [2811, 2812, 2813, 2836, 2846] := rfl
theorem ceS2_inj {a b : List Int} (h : ceS2 a = ceS2 b) : a = b := by
  have h1 := congrArg Site.blks h
  simp only [ceS2] at h1
  by_cases e : a = [] <;> by_cases e' : b = [] <;> simp [e, e'] at h1 ⊢
  exact map_ri_inj h1
theorem pairs_inj : ∀ {a b : List (Int × Int)}, a.map (·.1) = b.map (·.1) → a.map (·.2) = b.map (·.2) → a = b
  | [], [], _, _ => rfl
  | [], _ :: _, h, _ => by simp at h
  | _ :: _, [], h, _ => by simp at h
  | x :: a, y :: b, h, k => by
    simp only [List.map_cons, List.cons.injEq] at h k
    rw [Prod.ext h.1 k.1, pairs_inj h.2 k.2]
theorem ceL_inj (s s' : List (Int × Int)) (h : ∀ k ∈ [2811, 2812, 2813, 2836, 2846], hps (ceL s) noH k = hps (ceL s') noH k) : s = s' := by
  have h1 : ceS2 (s.map (·.1)) = ceS2 (s'.map (·.1)) := h 2836 (by simp)
  have h2 : ceS2 (s.map (·.2)) = ceS2 (s'.map (·.2)) := h 2846 (by simp)
  exact pairs_inj (ceS2_inj h1) (ceS2_inj h2)
abbrev ceP (s : List (Int × Int)) (x : List V) : Prop := (∃ w m, x = [.agg [.int .i64 w, .int .i64 m]] ∧ (0 < w ∧ w ≤ 1000000) ∧ -300000000 ≤ m ∧ m ≤ 300000000) ∧ s.length ≤ 1
abbrev ceN (s : List (Int × Int)) (x : List V) : List (Int × Int) := s ++ [(wmM x / wmW x, -(-wmM x / wmW x))]
def ceP2 (c : Ca) (l : List Gu) (s : List Int) (x : Int) : Int × Int := (mom c l s x / wgt c l x, -(-mom c l s x / wgt c l x))
theorem cen_run (c : Ca) (l : List Gu) (s : List Int) (f : Sp) (h : LFit c l f) : (runS ceP (fun _ _ => true) ceN [] (endL (c, l, s, f))).1 ∧ (runS ceP (fun _ _ => true) ceN [] (endL (c, l, s, f))).2 = (true, [ceP2 c l s f.lo, ceP2 c l s f.hi]) := by
  have w1 := wgt_bd h (x := f.lo) (by have := h.ff; omega)
  have w2 := wgt_bd h (x := f.hi) (by have := h.ff; omega)
  have m1 := mom_bd h s (x := f.lo) (by have := h.ff; omega)
  have m2 := mom_bd h s (x := f.hi) (by have := h.ff; omega)
  have p1 : ceP [] (wmV c l s f.lo) := ⟨⟨wgt c l f.lo, mom c l s f.lo, rfl, ⟨w1.1, by omega⟩, m1⟩, by simp⟩
  have p2 : ceP (ceN [] (wmV c l s f.lo)) (wmV c l s f.hi) := ⟨⟨wgt c l f.hi, mom c l s f.hi, rfl, ⟨w2.1, by omega⟩, m2⟩, by simp⟩
  exact ⟨⟨p1, p2, trivial⟩, rfl⟩
def cenO (c : Ca) (l : List Gu) (s : List Int) (f : Sp) : Sp := if seaE c l s f = 0 then cenL c l f s else ⟨0, 0⟩
noncomputable abbrev CenS : PSpec := { dom := Ca × List Gu × List Int × Sp, enc := pcE, dec := fun l => decC pcE (nf2 l), pre := PcP, res := fun d => .tup [.agg (cenO d.1 d.2.1 d.2.2.1 d.2.2.2).row, .int .i64 (seaE d.1 d.2.1 d.2.2.1 d.2.2.2)] }
noncomputable abbrev E28 : Env := { P := Try.prog, fn := tbl [(50, .pure seaS), (60, .pure endsS), (90, .iter endI), (61, .pure floS), (62, .pure minS), (63, .pure maxS)], own := [], key := 2800, nt := 52 }
theorem b28 : PureBody E28 [] Try.f28 CenS := by
  refine pb ?_
  rintro ⟨c, l, s, f⟩ hP
  have hP : PcP (c, l, s, f) := hP
  by_cases he : seaE c l s f = 0
  case neg =>
    have he' : (seaE c l s f = 0) = False := eq_false he
    have hK : cenO c l s f = ⟨0, 0⟩ := if_neg he
    simp -dsimp [Try.f28, E28, Ca.row, Sp.row]
    repeat' (first | omega | (simp -dsimp [E28, ri, cellp, ints, Ca.row, Sp.row, pcE_dec, hP, he', hK]) | (refine Also.intro ?_ fun _ => ?_) | (refine Hold.intro fun _ => ?_) | (refine And.intro ?_ ?_))
  have hK : cenO c l s f = cenL c l f s := if_pos he
  have hF := pfit_of he
  obtain ⟨hL, hR⟩ := id hF
  simp only at hL hR
  obtain ⟨hr1, hr2⟩ := cen_run c l s f hL
  simp -dsimp [Try.f28, E28, Ca.row, Sp.row]
  repeat' (first | omega | (simp -dsimp [E28, ri, cellp, ints, Ca.row, Sp.row, pcE_dec, hP, he]) | (refine Also.intro ?_ fun _ => ?_) | (refine Hold.intro fun _ => ?_) | (refine And.intro ?_ ?_))
  refine awp_range (LC := ceL) (keys := [2811, 2812, 2813, 2836, 2846]) (pre := ceP) (go := fun _ _ => true) (nxt := ceN) ceL_inj ceL_keys [] .normal (endL (c, l, s, f)) (own := [9008, 9010]) (ro := []) (dec := endDec) (by simp; exact ⟨rfl, rfl⟩) (by simp; rfl) rfl (by decide) (by decide) (by decide) ⟨rfl, rfl⟩ ?_ ?_ ?_ hr1 ?_ ?_ ?_
  · intro k hk
    simp at hk
    rcases hk with rfl | rfl | rfl | rfl | rfl <;> rfl
  · intro k hk
    simp at hk
    rcases hk with rfl | rfl <;> rfl
  · have := endDec_at (c, l, s, f)
    simp -dsimp [enE, Ca.row, Sp.row] at this
    rw [this]
    exact ⟨hF, rfl⟩
  · rintro q x hb ⟨⟨w, m, rfl, hw, hm⟩, hs⟩ hy1 hy2
    refine ⟨rfl, ?_⟩
    have hN : ceN q [.agg [.int .i64 w, .int .i64 m]] = q ++ [(m / w, -(-m / w))] := rfl
    rw [hN]
    have fp1 : FlP (m, w) := ⟨⟨by simp only; omega, by simp only; omega⟩, hw⟩
    have fp2 : FlP (-m, w) := ⟨⟨by simp only; omega, by simp only; omega⟩, hw⟩
    have b1 := ediv_bd hw.1 fp1.n
    have b2 := ediv_bd hw.1 fp2.n
    simp only at b1 b2
    have wn1 : IntKind.wrap .i64 (-m) = -m := wrap_id (by omega) (by omega)
    generalize hq1 : m / w = q1 at *
    generalize hq2 : -m / w = q2 at *
    unfold Far0 at b1 b2
    have wn2 : IntKind.wrap .i64 (-q2) = -q2 := wrap_id (by omega) (by omega)
    match q, hs with
    | [], _ =>
      simp -dsimp [E28, setT, ceL, ceS1, ceS2]
      repeat' (first | omega | (simp -dsimp [E28, ri, cellp, ints, ceS1, ceS2, flE_dec, fp1, fp2, hq1, hq2, wn1, wn2]) | (refine Also.intro ?_ fun _ => ?_) | (refine Hold.intro fun _ => ?_) | (refine And.intro ?_ ?_))
      exact (by (try simp -dsimp only [hpush_noH, hpush_hps, hps_over]); refine hle_hpsb ?_; simp -dsimp [allK, ceL, ceS1, ceS2, ri]; repeat' (first | (refine And.intro ?_ ?_) | (refine sLe.same ?_ ?_ <;> (simp; done)) | (refine sLe.clear ?_ ?_ <;> (first | (simp; done) | (simp; omega))) | (refine sLe.drop 1 ?_ ?_ ?_ <;> (simp; done))))
    | [p], _ =>
      simp -dsimp [E28, setT, ceL, ceS1, ceS2]
      repeat' (first | omega | (simp -dsimp [E28, ri, cellp, ints, ceS1, ceS2, flE_dec, fp1, fp2, hq1, hq2, wn1, wn2]) | (refine Also.intro ?_ fun _ => ?_) | (refine Hold.intro fun _ => ?_) | (refine And.intro ?_ ?_))
      exact (by (try simp -dsimp only [hpush_noH, hpush_hps, hps_over]); refine hle_hpsb ?_; simp -dsimp [allK, ceL, ceS1, ceS2, ri]; repeat' (first | (refine And.intro ?_ ?_) | (refine sLe.same ?_ ?_ <;> (simp; done)) | (refine sLe.clear ?_ ?_ <;> (first | (simp; done) | (simp; omega))) | (refine sLe.drop 1 ?_ ?_ ?_ <;> (simp; done))))
  · intro _
    rw [hr2]
    have hcl : cenL c l f s = ⟨min (ceP2 c l s f.lo).1 (ceP2 c l s f.hi).1, max (ceP2 c l s f.lo).2 (ceP2 c l s f.hi).2⟩ := rfl
    rw [hcl] at hK
    generalize ceP2 c l s f.lo = p at *
    generalize ceP2 c l s f.hi = q at *
    simp -dsimp [ceL, ceS1, ceS2, hps_app]
    repeat' (first | omega | (simp -dsimp [E28, ri, cellp, ints, twE_dec, Sp.row, hK]) | (refine Also.intro ?_ fun _ => ?_) | (refine Hold.intro fun _ => ?_) | (refine And.intro ?_ ?_))
  · intro h
    rw [hr2] at h; cases h
theorem ok28 : FnOK Try.prog 28 (.pure CenS) := pure_fn (E := E28) rfl (.cons ok50 (.cons ok60 (.cons ok90 (.cons ok61 (.cons ok62 (.cons ok63 .nil)))))) (ok := []) (fn := Try.f28) (by kernel_rfl) (by kernel_rfl) (by kernel_rfl) (by kernel_rfl) rfl (fun _ _ => by simp) b28
end Go.Sx
end
section
/- Crew: duties held against others, the first of some duties, those of one person. No conditions. -/
set_option linter.unusedSimpArgs false
set_option linter.unusedSectionVars false
set_option maxRecDepth 100000
set_option maxHeartbeats 1000000
namespace Go.Sx
open Go.Proofs

def bkRow (r : Ro) (o : List Du) : List V := [.sl 3 (r.ppl.map Pn.row), .int .i64 r.lng, .int .i64 r.rst, .int .i64 r.win, .int .i64 r.tot, .int .i64 r.rcn, .sl 3 (o.map Du.row)]
theorem bkRow_inj {r r' : Ro} {o o' : List Du} (h : bkRow r o = bkRow r' o') : r = r' ∧ o = o' := by
  cases r; cases r'
  simp only [bkRow, List.cons.injEq, V.sl.injEq, V.int.injEq, true_and, and_true] at h
  obtain ⟨h1, h2, h3, h4, h5, h6, h7⟩ := h
  rw [mapRow_inj Pn.row_inj h1, h2, h3, h4, h5, h6, mapRow_inj Du.row_inj h7]; exact ⟨rfl, rfl⟩
/-- What a closure tells of a duty. -/
inductive Clo where
  | oth (n : Int)
  | rst (r : Ro) (o : List Du) (x : Du)
  | rcn (r : Ro) (o : List Du) (x : Du)
instance : Inhabited Clo := ⟨.oth 0⟩
def Clo.v : Clo → V
  | .oth n => .fn 81 [cellp n]
  | .rst r o x => .fn 84 [.ip 7 [bkRow r o] 0 0, .ip 3 [x.row] 0 0]
  | .rcn r o x => .fn 102 [.ip 3 [x.row] 0 0, .ip 7 [bkRow r o] 0 0]
theorem Clo.v_inj (a b : Clo) (h : a.v = b.v) : a = b := by
  cases a <;> cases b <;> simp only [Clo.v, cellp, V.fn.injEq, List.cons.injEq, V.ip.injEq, V.int.injEq, true_and, and_true] at h
  · rw [h]
  · exact absurd h.1 (by decide)
  · exact absurd h.1 (by decide)
  · exact absurd h.1 (by decide)
  · obtain ⟨h1, h2⟩ := h
    obtain ⟨rfl, rfl⟩ := bkRow_inj h1
    obtain rfl := Du.row_inj _ _ h2
    rfl
  · exact absurd h.1 (by decide)
  · exact absurd h.1 (by decide)
  · exact absurd h.1 (by decide)
  · obtain ⟨h2, h1⟩ := h
    obtain ⟨rfl, rfl⟩ := bkRow_inj h1
    obtain rfl := Du.row_inj _ _ h2
    rfl
def Clo.t : Clo → Du → Bool
  | .oth n, d => d.p != n
  | .rst r _ x, d => !restW r d x
  | .rcn r _ x, d => nearW r x d

/-! rest -/
@[simp] def rsE (d : Ro × List Du × Du × Du) : List V := [.agg (bkRow d.1 d.2.1), .agg d.2.2.1.row, .agg d.2.2.2.row]
theorem rsE_inj (a b : Ro × List Du × Du × Du) (h : rsE a = rsE b) : a = b := by
  obtain ⟨a1, a2, a3, a4⟩ := a; obtain ⟨b1, b2, b3, b4⟩ := b
  simp only [rsE, List.cons.injEq, V.agg.injEq, and_true] at h
  obtain ⟨h1, h2, h3⟩ := h
  obtain ⟨rfl, rfl⟩ := bkRow_inj h1
  rw [Du.row_inj _ _ h2, Du.row_inj _ _ h3]
theorem rsE_dec (r : Ro) (o : List Du) (x y : Du) : decC rsE [.agg [.sl 3 (r.ppl.map Pn.row), .int .i64 r.lng, .int .i64 r.rst, .int .i64 r.win, .int .i64 r.tot, .int .i64 r.rcn, .sl 3 (o.map Du.row)], .agg [.int .i64 x.p, .int .i64 x.a, .int .i64 x.b], .agg [.int .i64 y.p, .int .i64 y.a, .int .i64 y.b]] = (r, o, x, y) := decC_eq rsE_inj (r, o, x, y)
noncomputable abbrev restS : PSpec := mkP rsE (fun _ => True) fun d => .bool (restW d.1 d.2.2.1 d.2.2.2)
noncomputable abbrev E85 : Env := { P := Try.prog, fn := tbl [], own := [], key := 8500, nt := 23 }
theorem b85 : PureBody E85 [] Try.f85 restS := by
  refine pb ?_
  rintro ⟨r, o, x, y⟩ _
  by_cases h : y.a < x.a
  · simp -dsimp [Try.f85, E85, bkRow, Du.row, restW, h]
    repeat' (first | omega | (simp -dsimp [E85, ri, cellp, ints, h, bkRow, Du.row]) | (refine Also.intro ?_ fun _ => ?_) | (refine Hold.intro fun _ => ?_) | (refine And.intro ?_ ?_))
  · simp -dsimp [Try.f85, E85, bkRow, Du.row, restW, h]
    repeat' (first | omega | (simp -dsimp [E85, ri, cellp, ints, h, bkRow, Du.row]) | (refine Also.intro ?_ fun _ => ?_) | (refine Hold.intro fun _ => ?_) | (refine And.intro ?_ ?_))
theorem ok85 : FnOK Try.prog 85 (.pure restS) := pure_fn (E := E85) rfl LOK.nil (ok := []) (fn := Try.f85) (by kernel_rfl) (by kernel_rfl) (by kernel_rfl) (by kernel_rfl) rfl (fun _ _ => by simp) b85

/-! the closures -/
@[simp] def othE (d : Du × Int) : List V := [.agg d.1.row, cellp d.2]
theorem othE_inj (a b : Du × Int) (h : othE a = othE b) : a = b := by
  obtain ⟨a1, a2⟩ := a; obtain ⟨b1, b2⟩ := b
  simp only [othE, cellp, List.cons.injEq, V.agg.injEq, V.ip.injEq, V.int.injEq, true_and, and_true] at h
  rw [Du.row_inj _ _ h.1, h.2]
theorem othE_dec (x : Du) (n : Int) : decC othE [.agg [.int .i64 x.p, .int .i64 x.a, .int .i64 x.b], .ip 1 [[.int .i64 n]] 0 0] = (x, n) := decC_eq othE_inj (x, n)
noncomputable abbrev othS : PSpec := mkP othE (fun _ => True) fun d => .bool (d.1.p != d.2)
noncomputable abbrev E81 : Env := { P := Try.prog, fn := tbl [], own := [], key := 8100, nt := 8 }
theorem b81 : PureBody E81 [] Try.f81 othS := by
  refine pb ?_
  rintro ⟨x, n⟩ _
  simp -dsimp [Try.f81, E81, Du.row, cellp]
  repeat' (first | omega | (simp -dsimp [E81, ri, cellp, ints, *]) | (refine Also.intro ?_ fun _ => ?_) | (refine Hold.intro fun _ => ?_) | (refine And.intro ?_ ?_))
theorem ok81 : FnOK Try.prog 81 (.pure othS) := pure_fn (E := E81) rfl LOK.nil (ok := []) (fn := Try.f81) (by kernel_rfl) (by kernel_rfl) (by kernel_rfl) (by kernel_rfl) rfl (fun _ _ => by simp) b81
@[simp] def rstE (d : Du × Ro × List Du × Du) : List V := [.agg d.1.row, .ip 7 [bkRow d.2.1 d.2.2.1] 0 0, .ip 3 [d.2.2.2.row] 0 0]
theorem rstE_inj (a b : Du × Ro × List Du × Du) (h : rstE a = rstE b) : a = b := by
  obtain ⟨a1, a2, a3, a4⟩ := a; obtain ⟨b1, b2, b3, b4⟩ := b
  simp only [rstE, List.cons.injEq, V.agg.injEq, V.ip.injEq, true_and, and_true] at h
  obtain ⟨h1, h2, h3⟩ := h
  obtain ⟨rfl, rfl⟩ := bkRow_inj h2
  rw [Du.row_inj _ _ h1, Du.row_inj _ _ h3]
theorem rstE_dec (r : Ro) (o : List Du) (x y : Du) : decC rstE [.agg [.int .i64 x.p, .int .i64 x.a, .int .i64 x.b], .ip 7 [[.sl 3 (r.ppl.map Pn.row), .int .i64 r.lng, .int .i64 r.rst, .int .i64 r.win, .int .i64 r.tot, .int .i64 r.rcn, .sl 3 (o.map Du.row)]] 0 0, .ip 3 [[.int .i64 y.p, .int .i64 y.a, .int .i64 y.b]] 0 0] = (x, r, o, y) := decC_eq rstE_inj (x, r, o, y)
noncomputable abbrev rstS : PSpec := mkP rstE (fun _ => True) fun d => .bool (!restW d.2.1 d.1 d.2.2.2)
noncomputable abbrev E84 : Env := { P := Try.prog, fn := tbl [(85, .pure restS)], own := [], key := 8400, nt := 10 }
theorem b84 : PureBody E84 [] Try.f84 rstS := by
  refine pb ?_
  rintro ⟨x, r, o, y⟩ _
  simp -dsimp [Try.f84, E84, Du.row, bkRow]
  repeat' (first | omega | (simp -dsimp [E84, ri, cellp, ints, rsE_dec, bkRow, Du.row]) | (refine Also.intro ?_ fun _ => ?_) | (refine Hold.intro fun _ => ?_) | (refine And.intro ?_ ?_))
theorem ok84 : FnOK Try.prog 84 (.pure rstS) := pure_fn (E := E84) rfl (.cons ok85 .nil) (ok := []) (fn := Try.f84) (by kernel_rfl) (by kernel_rfl) (by kernel_rfl) (by kernel_rfl) rfl (fun _ _ => by simp) b84
@[simp] def rcnE (d : Du × Ro × List Du × Du) : List V := [.agg d.1.row, .ip 3 [d.2.2.2.row] 0 0, .ip 7 [bkRow d.2.1 d.2.2.1] 0 0]
theorem rcnE_inj (a b : Du × Ro × List Du × Du) (h : rcnE a = rcnE b) : a = b := by
  obtain ⟨a1, a2, a3, a4⟩ := a; obtain ⟨b1, b2, b3, b4⟩ := b
  simp only [rcnE, List.cons.injEq, V.agg.injEq, V.ip.injEq, true_and, and_true] at h
  obtain ⟨h1, h3, h2⟩ := h
  obtain ⟨rfl, rfl⟩ := bkRow_inj h2
  rw [Du.row_inj _ _ h1, Du.row_inj _ _ h3]
theorem rcnE_dec (r : Ro) (o : List Du) (x y : Du) : decC rcnE [.agg [.int .i64 x.p, .int .i64 x.a, .int .i64 x.b], .ip 3 [[.int .i64 y.p, .int .i64 y.a, .int .i64 y.b]] 0 0, .ip 7 [[.sl 3 (r.ppl.map Pn.row), .int .i64 r.lng, .int .i64 r.rst, .int .i64 r.win, .int .i64 r.tot, .int .i64 r.rcn, .sl 3 (o.map Du.row)]] 0 0] = (x, r, o, y) := decC_eq rcnE_inj (x, r, o, y)
noncomputable abbrev rcnS : PSpec := mkP rcnE (fun _ => True) fun d => .bool (nearW d.2.1 d.2.2.2 d.1)
noncomputable abbrev E102 : Env := { P := Try.prog, fn := tbl [(42, .pure withinS)], own := [], key := 10200, nt := 14 }
theorem b102 : PureBody E102 [] Try.f102 rcnS := by
  refine pb ?_
  rintro ⟨x, r, o, y⟩ _
  simp -dsimp [Try.f102, E102, Du.row, bkRow]
  repeat' (first | omega | (simp -dsimp [E102, ri, cellp, ints, withinB, nearW, wr]) | (refine Also.intro ?_ fun _ => ?_) | (refine Hold.intro fun _ => ?_) | (refine And.intro ?_ ?_))
theorem ok102 : FnOK Try.prog 102 (.pure rcnS) := pure_fn (E := E102) rfl (.cons ok42 .nil) (ok := []) (fn := Try.f102) (by kernel_rfl) (by kernel_rfl) (by kernel_rfl) (by kernel_rfl) rfl (fun _ _ => by simp) b102

/-! the first duty of which a closure tells -/
@[simp] def duxE (d : List Du × Clo) : List V := [.sl 3 (d.1.map Du.row), d.2.v]
theorem duxE_inj (a b : List Du × Clo) (h : duxE a = duxE b) : a = b := by
  obtain ⟨a1, a2⟩ := a; obtain ⟨b1, b2⟩ := b
  simp only [duxE, List.cons.injEq, V.sl.injEq, true_and, and_true] at h
  rw [mapRow_inj Du.row_inj h.1, Clo.v_inj _ _ h.2]
theorem duxE_oth (l : List Du) (n : Int) : decC duxE [.sl 3 (l.map Du.row), .fn 81 [.ip 1 [[.int .i64 n]] 0 0]] = (l, .oth n) := decC_eq duxE_inj (l, .oth n)
theorem duxE_rst (l : List Du) (r : Ro) (o : List Du) (y : Du) : decC duxE [.sl 3 (l.map Du.row), .fn 84 [.ip 7 [[.sl 3 (r.ppl.map Pn.row), .int .i64 r.lng, .int .i64 r.rst, .int .i64 r.win, .int .i64 r.tot, .int .i64 r.rcn, .sl 3 (o.map Du.row)]] 0 0, .ip 3 [[.int .i64 y.p, .int .i64 y.a, .int .i64 y.b]] 0 0]] = (l, .rst r o y) := decC_eq duxE_inj (l, .rst r o y)
theorem duxE_rcn (l : List Du) (r : Ro) (o : List Du) (y : Du) : decC duxE [.sl 3 (l.map Du.row), .fn 102 [.ip 3 [[.int .i64 y.p, .int .i64 y.a, .int .i64 y.b]] 0 0, .ip 7 [[.sl 3 (r.ppl.map Pn.row), .int .i64 r.lng, .int .i64 r.rst, .int .i64 r.win, .int .i64 r.tot, .int .i64 r.rcn, .sl 3 (o.map Du.row)]] 0 0]] = (l, .rcn r o y) := decC_eq duxE_inj (l, .rcn r o y)
noncomputable abbrev duixS : PSpec := mkP duxE (fun d => d.1.length ≤ 1000000) fun d => .int .i64 (idxZ d.1 d.2.t)
noncomputable abbrev duanS : PSpec := mkP duxE (fun d => d.1.length ≤ 1000000) fun d => .bool (d.1.any d.2.t)

noncomputable abbrev E100 : Env := { P := Try.prog, fn := tbl [(81, .pure othS), (84, .pure rstS), (102, .pure rcnS)], own := [], key := 10000, nt := 19 }
theorem b100 : PureBody E100 [] Try.f100 duixS := by
  refine pb ?_
  rintro ⟨l, c⟩ hl
  have hl : l.length ≤ 1000000 := hl
  rcases c with n | ⟨r, o, y⟩ | ⟨r, o, y⟩
  · simp -dsimp [Try.f100, E100, Clo.v, cellp, bkRow, Du.row]
    refine awp_loop [9, 10, 5, 11, 12, 13, 14, 15, 16, 17, 4, 18, 8] (fun k : { k : Nat // k ≤ l.length ∧ ∀ j (h : j < l.length), j < k → (Clo.oth n).t l[j] = false } => [(8, (true, .int .i64 k.1))]) (fun _ => noH) (fun k => l.length - k.1) ⟨0, by omega, fun _ _ h => by omega⟩ ?_ (HLe.refl _) ?_
    · simp [okAll, okv]
    rintro ⟨k, hk, hall⟩
    by_cases hk1 : k < l.length
    · have hki : (k : Int) < l.length := by omega
      have wk : IntKind.wrap .i64 ((k : Int) + 1) = (k + 1 : Nat) := wrap_id (by omega) (by omega)
      cases hw : (Clo.oth n).t l[k]
      · have hw' := hw
        simp only [Clo.t] at hw'
        simp -dsimp [hki]
        repeat' (first | omega | (simp -dsimp [E100, ri, cellp, ints, hki, hk1, hl, hw', wk, Du.row, bkRow, othE_dec]) | (refine Also.intro ?_ fun _ => ?_) | (refine Hold.intro fun _ => ?_) | (refine And.intro ?_ ?_))
        refine ⟨k + 1, tle_chain rfl ?_, HLe.refl _, ⟨by omega, fun j h hj => ?_⟩, by omega⟩
        · simp [okAll, okv]
        · by_cases hjk : j = k
          · subst hjk; exact hw
          · exact hall j h (by omega)
      · have hz := idxZ_at l (Clo.oth n).t hk1 hw hall
        have hw' := hw
        simp only [Clo.t] at hw'
        simp -dsimp [hki]
        repeat' (first | omega | (simp -dsimp [E100, ri, cellp, ints, hki, hk1, hl, hw', wk, hz, Du.row, bkRow, othE_dec]) | (refine Also.intro ?_ fun _ => ?_) | (refine Hold.intro fun _ => ?_) | (refine And.intro ?_ ?_))
    · have hkn : ¬ (k : Int) < l.length := by omega
      have hz := idxZ_none l (Clo.oth n).t (fun j h => hall j h (by omega))
      simp -dsimp [hkn]
      repeat' (first | omega | (simp -dsimp [E100, ri, cellp, ints, hkn, hz]) | (refine Also.intro ?_ fun _ => ?_) | (refine Hold.intro fun _ => ?_) | (refine And.intro ?_ ?_))
  · simp -dsimp [Try.f100, E100, Clo.v, cellp, bkRow, Du.row]
    refine awp_loop [9, 10, 5, 11, 12, 13, 14, 15, 16, 17, 4, 18, 8] (fun k : { k : Nat // k ≤ l.length ∧ ∀ j (h : j < l.length), j < k → (Clo.rst r o y).t l[j] = false } => [(8, (true, .int .i64 k.1))]) (fun _ => noH) (fun k => l.length - k.1) ⟨0, by omega, fun _ _ h => by omega⟩ ?_ (HLe.refl _) ?_
    · simp [okAll, okv]
    rintro ⟨k, hk, hall⟩
    by_cases hk1 : k < l.length
    · have hki : (k : Int) < l.length := by omega
      have wk : IntKind.wrap .i64 ((k : Int) + 1) = (k + 1 : Nat) := wrap_id (by omega) (by omega)
      cases hw : (Clo.rst r o y).t l[k]
      · have hw' := hw
        simp only [Clo.t] at hw'
        simp -dsimp [hki]
        repeat' (first | omega | (simp -dsimp [E100, ri, cellp, ints, hki, hk1, hl, hw', wk, Du.row, bkRow, rstE_dec]) | (refine Also.intro ?_ fun _ => ?_) | (refine Hold.intro fun _ => ?_) | (refine And.intro ?_ ?_))
        refine ⟨k + 1, tle_chain rfl ?_, HLe.refl _, ⟨by omega, fun j h hj => ?_⟩, by omega⟩
        · simp [okAll, okv]
        · by_cases hjk : j = k
          · subst hjk; exact hw
          · exact hall j h (by omega)
      · have hz := idxZ_at l (Clo.rst r o y).t hk1 hw hall
        have hw' := hw
        simp only [Clo.t] at hw'
        simp -dsimp [hki]
        repeat' (first | omega | (simp -dsimp [E100, ri, cellp, ints, hki, hk1, hl, hw', wk, hz, Du.row, bkRow, rstE_dec]) | (refine Also.intro ?_ fun _ => ?_) | (refine Hold.intro fun _ => ?_) | (refine And.intro ?_ ?_))
    · have hkn : ¬ (k : Int) < l.length := by omega
      have hz := idxZ_none l (Clo.rst r o y).t (fun j h => hall j h (by omega))
      simp -dsimp [hkn]
      repeat' (first | omega | (simp -dsimp [E100, ri, cellp, ints, hkn, hz]) | (refine Also.intro ?_ fun _ => ?_) | (refine Hold.intro fun _ => ?_) | (refine And.intro ?_ ?_))
  · simp -dsimp [Try.f100, E100, Clo.v, cellp, bkRow, Du.row]
    refine awp_loop [9, 10, 5, 11, 12, 13, 14, 15, 16, 17, 4, 18, 8] (fun k : { k : Nat // k ≤ l.length ∧ ∀ j (h : j < l.length), j < k → (Clo.rcn r o y).t l[j] = false } => [(8, (true, .int .i64 k.1))]) (fun _ => noH) (fun k => l.length - k.1) ⟨0, by omega, fun _ _ h => by omega⟩ ?_ (HLe.refl _) ?_
    · simp [okAll, okv]
    rintro ⟨k, hk, hall⟩
    by_cases hk1 : k < l.length
    · have hki : (k : Int) < l.length := by omega
      have wk : IntKind.wrap .i64 ((k : Int) + 1) = (k + 1 : Nat) := wrap_id (by omega) (by omega)
      cases hw : (Clo.rcn r o y).t l[k]
      · have hw' := hw
        simp only [Clo.t] at hw'
        simp -dsimp [hki]
        repeat' (first | omega | (simp -dsimp [E100, ri, cellp, ints, hki, hk1, hl, hw', wk, Du.row, bkRow, rcnE_dec]) | (refine Also.intro ?_ fun _ => ?_) | (refine Hold.intro fun _ => ?_) | (refine And.intro ?_ ?_))
        refine ⟨k + 1, tle_chain rfl ?_, HLe.refl _, ⟨by omega, fun j h hj => ?_⟩, by omega⟩
        · simp [okAll, okv]
        · by_cases hjk : j = k
          · subst hjk; exact hw
          · exact hall j h (by omega)
      · have hz := idxZ_at l (Clo.rcn r o y).t hk1 hw hall
        have hw' := hw
        simp only [Clo.t] at hw'
        simp -dsimp [hki]
        repeat' (first | omega | (simp -dsimp [E100, ri, cellp, ints, hki, hk1, hl, hw', wk, hz, Du.row, bkRow, rcnE_dec]) | (refine Also.intro ?_ fun _ => ?_) | (refine Hold.intro fun _ => ?_) | (refine And.intro ?_ ?_))
    · have hkn : ¬ (k : Int) < l.length := by omega
      have hz := idxZ_none l (Clo.rcn r o y).t (fun j h => hall j h (by omega))
      simp -dsimp [hkn]
      repeat' (first | omega | (simp -dsimp [E100, ri, cellp, ints, hkn, hz]) | (refine Also.intro ?_ fun _ => ?_) | (refine Hold.intro fun _ => ?_) | (refine And.intro ?_ ?_))
theorem ok100 : FnOK Try.prog 100 (.pure duixS) := pure_fn (E := E100) rfl (.cons ok81 (.cons ok84 (.cons ok102 .nil))) (ok := []) (fn := Try.f100) (by kernel_rfl) (by kernel_rfl) (by kernel_rfl) (by kernel_rfl) rfl (fun _ _ => by simp) b100
noncomputable abbrev E83 : Env := { P := Try.prog, fn := tbl [(100, .pure duixS)], own := [], key := 8300, nt := 9 }
theorem b83 : PureBody E83 [] Try.f83 duanS := by
  refine pb ?_
  rintro ⟨l, c⟩ hl
  have hl : l.length ≤ 1000000 := hl
  have hz := idxZ_any l c.t
  rcases c with n | ⟨r, o, y⟩ | ⟨r, o, y⟩
  all_goals
    simp -dsimp [Try.f83, E83, Clo.v, cellp, bkRow, Du.row]
    repeat' (first | omega | (simp -dsimp [E83, ri, cellp, ints, hl, duxE_oth, duxE_rst, duxE_rcn, hz]) | (refine Also.intro ?_ fun _ => ?_) | (refine Hold.intro fun _ => ?_) | (refine And.intro ?_ ?_))
theorem ok83 : FnOK Try.prog 83 (.pure duanS) := pure_fn (E := E83) rfl (.cons ok100 .nil) (ok := []) (fn := Try.f83) (by kernel_rfl) (by kernel_rfl) (by kernel_rfl) (by kernel_rfl) rfl (fun _ _ => by simp) b83
end Go.Sx
end
