/- A part of a proof; no conditions. -/
import Derived.Test.YtcbcajnkdknkdaaDoorP14
import Derived.Test.YtcbcajnkdknkdaaDoorP18
set_option linter.unusedSimpArgs false
set_option linter.unusedVariables false
set_option linter.unusedSectionVars false
section
/- Parts: the best list of parts is feasible, and none is before it. No conditions. -/
set_option linter.unusedSimpArgs false
set_option linter.unusedSectionVars false
namespace Go.Sx

/-- Whether flights can be flown with a list of parts. -/
def fly2 : List Int → List Int → List Int → Bool
  | _, [], [] => true
  | left, f :: fs, p :: ps => (decide (0 ≤ p) && (decide (p < left.length) && !decide (left.getD p.toNat 0 < f))) && fly2 (left.set p.toNat (wsub (left.getD p.toNat 0) f)) fs ps
  | _, _, _ => false
theorem fly2_len : ∀ {left fl l : List Int}, fly2 left fl l = true → l.length = fl.length
  | _, [], [], _ => rfl
  | _, [], _ :: _, h => by simp [fly2] at h
  | _, _ :: _, [], h => by simp [fly2] at h
  | left, f :: fs, p :: ps, h => by
    simp only [fly2, Bool.and_eq_true] at h
    simp [fly2_len h.2]
/-- The first list is the second, or comes before it. -/
def lexle : List Int → List Int → Prop
  | [], [] => True
  | a :: x, b :: y => a < b ∨ (a = b ∧ lexle x y)
  | _, _ => False
theorem lexle_refl : ∀ x, lexle x x
  | [] => trivial
  | a :: x => .inr ⟨rfl, lexle_refl x⟩
theorem lexle_trans : ∀ {x y z}, lexle x y → lexle y z → lexle x z
  | [], [], [], _, _ => trivial
  | a :: x, b :: y, c :: z, h1, h2 => by
    rcases h1 with h1 | ⟨h1, h1'⟩ <;> rcases h2 with h2 | ⟨h2, h2'⟩
    · exact .inl (by omega)
    · exact .inl (by omega)
    · exact .inl (by omega)
    · exact .inr ⟨by omega, lexle_trans h1' h2'⟩
  | [], [], _ :: _, _, h => h.elim
  | [], _ :: _, _, h, _ => h.elim
  | _ :: _, [], _, h, _ => h.elim
  | _ :: _, _ :: _, [], _, h => h.elim
theorem lexle_app (b : List Int) {x y : List Int} (h : lexle x y) : lexle (b ++ x) (b ++ y) := by
  induction b with
  | nil => exact h
  | cons a b ih => exact .inr ⟨rfl, ih⟩
theorem lexle_at : ∀ {x y : List Int}, lexle x y → ∀ i, (∀ j, j < i → x.getD j 0 = y.getD j 0) → x.getD i 0 ≠ y.getD i 0 → x.getD i 0 < y.getD i 0
  | [], [], _, i, _, h => by simp at h
  | a :: x, b :: y, hl, 0, _, h => by
    simp at h ⊢
    rcases hl with hl | ⟨hl, _⟩
    · exact hl
    · exact absurd hl h
  | a :: x, b :: y, hl, i + 1, hj, h => by
    have h0 := hj 0 (by omega)
    simp at h0
    rcases hl with hl | ⟨_, hl⟩
    · omega
    · have := lexle_at hl i (fun j hji => by have := hj (j + 1) (by omega); simpa using this) (by simpa using h)
      simpa using this
  | [], _ :: _, h, _, _, _ => h.elim
  | _ :: _, [], h, _, _, _ => h.elim
/-- Fewer changes, or as many and not behind. -/
def le2 (x y : List Int) : Prop := chg x < chg y ∨ (chg x = chg y ∧ lexle x y)
theorem le2_refl (x : List Int) : le2 x x := .inr ⟨rfl, lexle_refl x⟩
theorem le2_trans {x y z : List Int} (h1 : le2 x y) (h2 : le2 y z) : le2 x z := by
  rcases h1 with h1 | ⟨h1, h1'⟩ <;> rcases h2 with h2 | ⟨h2, h2'⟩
  · exact .inl (by omega)
  · exact .inl (by omega)
  · exact .inl (by omega)
  · exact .inr ⟨by omega, lexle_trans h1' h2'⟩
theorem le2_chg {x y : List Int} (h : le2 x y) : chg x ≤ chg y := by
  rcases h with h | ⟨h, _⟩ <;> omega
theorem rPlans_fly (fl : List Int) : ∀ (f : Nat) (b left l : List Int), fl.length = b.length + f → rPlans fl f b left = some l → ∃ r, l = b ++ r ∧ fly2 left (fl.drop b.length) r = true
  | 0, b, left, l, hf, h => by
    simp only [rPlans, Option.some.injEq] at h
    refine ⟨[], by simp [h], ?_⟩
    rw [List.drop_of_length_le (by omega)]; rfl
  | f + 1, b, left, l, hf, h => by
    simp only [rPlans] at h
    obtain ⟨q, hq, hn, h2⟩ := rTo_some h
    obtain ⟨r, h3, h4⟩ := rPlans_fly fl f _ _ _ (by simp; omega) h2
    have hd : fl.drop b.length = fl.getD b.length 0 :: fl.drop (b.length + 1) := by
      have hb : b.length < fl.length := by omega
      rw [List.drop_eq_getElem_cons hb]; simp [List.getD, hb]
    refine ⟨(q : Int) :: r, by rw [h3]; simp, ?_⟩
    rw [hd]
    simp only [List.length_append, List.length_singleton] at h4
    simp only [fly2, Int.toNat_natCast, h4, Bool.and_true, Bool.and_eq_true, decide_eq_true_eq, Bool.not_eq_true', decide_eq_false_iff_not]
    exact ⟨by omega, by omega, hn⟩
theorem rTo_le2 {g : List Int → List Int → Option (List Int)} {fl b left : List Int} (hg : ∀ (q : Nat) (lf l : List Int), g (b ++ [(q : Int)]) lf = some l → ∃ r, l = b ++ (q : Int) :: r ∧ r.length + b.length + 1 = fl.length) :
    ∀ P (q : Nat) (c : List Int), q < P → ¬ left.getD q 0 < fl.getD b.length 0 → g (b ++ [(q : Int)]) (left.set q (wsub (left.getD q 0) (fl.getD b.length 0))) = some c → ∃ l0, rTo g fl b left P = some l0 ∧ le2 l0 c
  | 0, q, c, h, _, _ => by omega
  | P + 1, q, c, hq, hn, hc => by
    simp only [rTo]
    by_cases hlt : left.getD P 0 < fl.getD b.length 0
    · rw [if_pos hlt]
      have : q ≠ P := by rintro rfl; exact hn hlt
      exact rTo_le2 hg P q c (by omega) hn hc
    rw [if_neg hlt]
    by_cases e : q = P
    · subst e
      rw [hc]
      cases hm : rTo g fl b left q with
      | none => exact ⟨c, rfl, le2_refl c⟩
      | some m =>
        simp only [upd2]
        by_cases hlc : chg c < chg m
        · rw [if_pos hlc]; exact ⟨c, rfl, le2_refl c⟩
        · rw [if_neg hlc]
          refine ⟨m, rfl, ?_⟩
          by_cases heq : chg m = chg c
          · right
            refine ⟨heq, ?_⟩
            obtain ⟨q', hq', _, h2⟩ := rTo_some hm
            obtain ⟨r1, e1, _⟩ := hg _ _ _ h2
            obtain ⟨r2, e2, _⟩ := hg _ _ _ hc
            rw [e1, e2]
            exact lexle_app b (.inl (by omega))
          · left; omega
    · obtain ⟨l0, h0, hle⟩ := rTo_le2 hg P q c (by omega) hn hc
      rw [h0]
      cases hP : g (b ++ [(P : Int)]) (left.set P (wsub (left.getD P 0) (fl.getD b.length 0))) with
      | none => exact ⟨l0, rfl, hle⟩
      | some d =>
        simp only [upd2]
        by_cases hd : chg d < chg l0
        · rw [if_pos hd]
          exact ⟨d, rfl, .inl (by have := le2_chg hle; omega)⟩
        · rw [if_neg hd]; exact ⟨l0, rfl, hle⟩
theorem rPlans_best (fl : List Int) : ∀ (f : Nat) (b left r : List Int), fl.length = b.length + f → fly2 left (fl.drop b.length) r = true → ∃ l0, rPlans fl f b left = some l0 ∧ le2 l0 (b ++ r)
  | 0, b, left, r, hf, h => by
    have hl := fly2_len h
    rw [List.drop_of_length_le (by omega)] at hl
    have : r = [] := List.eq_nil_of_length_eq_zero hl
    subst this
    exact ⟨b, rfl, by rw [List.append_nil]; exact le2_refl b⟩
  | f + 1, b, left, r, hf, h => by
    have hd : fl.drop b.length = fl.getD b.length 0 :: fl.drop (b.length + 1) := by
      have hb : b.length < fl.length := by omega
      rw [List.drop_eq_getElem_cons hb]; simp [List.getD, hb]
    rw [hd] at h
    cases r with
    | nil => simp [fly2] at h
    | cons p r =>
      simp only [fly2, Bool.and_eq_true, decide_eq_true_eq, Bool.not_eq_true', decide_eq_false_iff_not] at h
      obtain ⟨⟨h1, h2, h3⟩, h4⟩ := h
      obtain ⟨q, rfl⟩ : ∃ q : Nat, p = q := ⟨p.toNat, by omega⟩
      rw [Int.toNat_natCast] at h3 h4
      obtain ⟨c, hc, hle⟩ := rPlans_best fl f (b ++ [(q : Int)]) _ r (by simp; omega) (by simpa using h4)
      obtain ⟨l0, h0, hle0⟩ := rTo_le2 (g := rPlans fl f) (fl := fl) (b := b) (left := left) (fun q lf l hl => by
        obtain ⟨r, e1, e2⟩ := rPlans_ext fl f _ _ _ hl
        exact ⟨r, by rw [e1]; simp, by omega⟩) left.length q c (by omega) h3 hc
      refine ⟨l0, by simp only [rPlans]; exact h0, ?_⟩
      have := le2_trans hle0 hle
      simpa using this
/-- With no less hours no list is lost. -/
theorem fly2_mono : ∀ {l fl left left' : List Int}, (∀ f ∈ fl, 1 ≤ f ∧ f ≤ 100000) → left.length = left'.length → (∀ i, i < left.length → 0 ≤ left.getD i 0 ∧ left.getD i 0 ≤ left'.getD i 0 ∧ left'.getD i 0 ≤ 100000) → fly2 left fl l = true → fly2 left' fl l = true
  | [], [], _, _, _, _, _, _ => rfl
  | [], _ :: _, _, _, _, _, _, h => by simp [fly2] at h
  | _ :: _, [], _, _, _, _, _, h => by simp [fly2] at h
  | p :: ps, f :: fs, left, left', hf, hl, hb, h => by
    simp only [fly2, Bool.and_eq_true, decide_eq_true_eq, Bool.not_eq_true', decide_eq_false_iff_not] at h ⊢
    obtain ⟨⟨h1, h2, h3⟩, h4⟩ := h
    obtain ⟨q, rfl⟩ : ∃ q : Nat, p = q := ⟨p.toNat, by omega⟩
    rw [Int.toNat_natCast] at h3 h4 ⊢
    have hq : q < left.length := by omega
    have hbq := hb q hq
    have hff := hf f (by simp)
    refine ⟨⟨h1, by omega, by omega⟩, ?_⟩
    have w1 : wsub (left.getD q 0) f = left.getD q 0 - f := wrap_id (by omega) (by omega)
    have w2 : wsub (left'.getD q 0) f = left'.getD q 0 - f := wrap_id (by omega) (by omega)
    refine fly2_mono (fun g hg => hf g (by simp [hg])) (by simp [hl]) (fun i hi => ?_) h4
    rw [List.length_set] at hi
    by_cases e : q = i
    · subst e
      rw [getD_set_eq' hq, getD_set_eq' (by omega), w1, w2]
      omega
    · rw [getD_set_ne' e, getD_set_ne' e]
      exact hb i hi
where
  getD_set_eq' {l : List Int} {i : Nat} {x : Int} (h : i < l.length) : (l.set i x).getD i 0 = x := by simp [List.getD, h]
  getD_set_ne' {l : List Int} {i j : Nat} {x : Int} (h : i ≠ j) : (l.set i x).getD j 0 = l.getD j 0 := by simp [List.getD, List.getElem?_set_ne h]
end Go.Sx
end
section
/- Parts: the law about the fewest changes. No conditions. -/
set_option linter.unusedSimpArgs false
set_option linter.unusedSectionVars false
set_option maxRecDepth 100000
set_option maxHeartbeats 4000000
namespace Go.Sx
open Go.Proofs
attribute [local irreducible] HLe
attribute [local simp] hps_app

def flF (sp fl l : List Int) : Bool := decide (l.length = fl.length) && fly2 sp fl l
/-- What the spare parts can still fly. -/
def leftAt (sp fl l : List Int) : Nat → List Int
  | 0 => sp
  | i + 1 => (leftAt sp fl l i).set (l.getD i 0).toNat (wsub ((leftAt sp fl l i).getD (l.getD i 0).toNat 0) (fl.getD i 0))
theorem leftAt_len (sp fl l : List Int) : ∀ i, (leftAt sp fl l i).length = sp.length
  | 0 => rfl
  | i + 1 => by simp only [leftAt, List.length_set]; exact leftAt_len sp fl l i
structure FlD where
  sp : List Int
  fl : List Int
  l : List Int
structure FlD.Fine (d : FlD) : Prop where
  sp : d.sp.length ≤ 100000000
  fl : d.fl.length ≤ 100000000
  l : d.l.length ≤ 9223372036854775807
abbrev fliesS : PSpec := { dom := FlD, enc := fun d => [ints d.sp, ints d.fl, ints d.l], dec := fun l => ⟨(l.getD 0 .top).toInts, (l.getD 1 .top).toInts, (l.getD 2 .top).toInts⟩, pre := FlD.Fine, res := fun d => .bool (flF d.sp d.fl d.l) }
noncomputable abbrev E45 : Env := { P := Tryd.prog, fn := tbl [], own := [], key := 4500, nt := 63 }
theorem b45 : PureBody E45 [] Tryd.f45 fliesS := by
  refine pb ?_
  rintro ⟨sp, fl, l⟩ ⟨b1, b2, b3⟩
  simp only at b1 b2 b3
  by_cases hn : l.length = fl.length
  case neg =>
    have hR : flF sp fl l = false := by simp [flF, hn]
    have hni : ((l.length : Int) = fl.length) = False := eq_false (by omega)
    simp -dsimp [Tryd.f45, E45, ints]
    repeat' (first | omega | (simp -dsimp [E45, ri, cellp, ints, hR, hni]) | (refine Also.intro ?_ fun _ => ?_) | (refine Hold.intro fun _ => ?_) | (refine And.intro ?_ ?_))
  have hni : (l.length : Int) = fl.length := by omega
  have hR : flF sp fl l = fly2 sp fl l := by simp [flF, hn]
  have hb8 : sp.length * 8 ≤ 140737488355328 := by omega
  rw [hR]
  clear hR
  simp -dsimp [Tryd.f45, E45, ints]
  repeat' (first | omega | (simp -dsimp [E45, ri, cellp, ints, hni, hb8]) | (refine Also.intro ?_ fun _ => ?_) | (refine Hold.intro fun _ => ?_) | (refine And.intro ?_ ?_))
  refine awp_loop [16, 17, 18, 19, 22, 23, 24, 25, 26, 27, 28, 29, 30, 31, 32, 33, 34, 35, 36, 37, 38, 39, 40, 41, 42, 43, 44, 45, 46, 47, 48, 49, 6, 50, 51, 52, 53, 54, 55, 56, 57, 58, 59, 60, 61, 62, 20, 21, 8] (fun k : { k : Nat // k ≤ l.length ∧ fly2 sp fl l = fly2 (leftAt sp fl l k) (fl.drop k) (l.drop k) } => [(8, (true, .int .i64 (k.1 : Nat)))])
    (fun k => hps [(4515, { base := 0, blks := [{ z := 1, els := (leftAt sp fl l k.1).map ri, ty := 3 }] })] noH) (fun k => l.length - k.1) ⟨0, by omega, rfl⟩ ?_ ?_ ?_
  · simp [okAll, okv]
  · exact (by (try simp -dsimp only [hpush_noH, hpush_hps, hps_over]); refine hle_hps ?_; simp -dsimp [allK, leftAt]; repeat' (first | (refine And.intro ?_ ?_) | (refine sLe.same ?_ ?_ <;> (simp; done)) | (refine sLe.clear ?_ ?_ <;> (first | (simp; done) | (simp; omega))) | (refine sLe.drop 1 ?_ ?_ ?_ <;> (simp; done))))
  rintro ⟨k, hk, hinv⟩
  simp only
  have hlen := leftAt_len sp fl l k
  by_cases hk1 : k < l.length
  case neg =>
    have hkn : ¬ (k : Int) < fl.length := by omega
    have e1 : fl.drop k = [] := List.drop_of_length_le (by omega)
    have e2 : l.drop k = [] := List.drop_of_length_le (by omega)
    rw [e1, e2] at hinv
    have hf : fly2 sp fl l = true := by rw [hinv]; cases leftAt sp fl l k <;> rfl
    simp -dsimp [hni, hkn]
    repeat' (first | omega | (simp -dsimp [E45, ri, cellp, ints, hkn, hf, hni]) | (refine Also.intro ?_ fun _ => ?_) | (refine Hold.intro fun _ => ?_) | (refine And.intro ?_ ?_))
  have hki : (k : Int) < fl.length := by omega
  have hk2 : k < fl.length := by omega
  have hwk : IntKind.wrap .i64 ((k : Int) + 1) = (k + 1 : Nat) := wrap_id (by omega) (by omega)
  obtain ⟨p, hp, hp'⟩ := get_ex hk1
  obtain ⟨f, hf, hf'⟩ := get_ex hk2
  have hdl : l.drop k = p :: l.drop (k + 1) := by rw [List.drop_eq_getElem_cons hk1, hp']
  have hdf : fl.drop k = f :: fl.drop (k + 1) := by rw [List.drop_eq_getElem_cons hk2, hf']
  have hnx : leftAt sp fl l (k + 1) = (leftAt sp fl l k).set p.toNat (wsub ((leftAt sp fl l k).getD p.toNat 0) f) := by
    have e1 : l.getD k 0 = p := by simp [List.getD, hp]
    have e2 : fl.getD k 0 = f := by simp [List.getD, hf]
    simp only [leftAt, e1, e2]
  rw [hdl, hdf] at hinv
  by_cases h0 : p < 0
  · have hR : fly2 sp fl l = false := by rw [hinv]; simp only [fly2]; rw [decide_eq_false (by omega)]; simp
    simp -dsimp [hni, hki]
    repeat' (first | omega | (simp -dsimp [E45, ri, cellp, ints, hki, hk1, hk2, hp, hp', hf, hf', h0, hR, hni]) | (refine Also.intro ?_ fun _ => ?_) | (refine Hold.intro fun _ => ?_) | (refine And.intro ?_ ?_))
  by_cases h1 : p < (leftAt sp fl l k).length
  case neg =>
    have hR : fly2 sp fl l = false := by rw [hinv]; simp only [fly2]; rw [decide_eq_false h1]; simp
    have h1' : (sp.length : Int) ≤ p := by omega
    simp -dsimp [hni, hki]
    repeat' (first | omega | (simp -dsimp [E45, ri, cellp, ints, hki, hk1, hk2, hp, hp', hf, hf', h0, h1', hR, hni]) | (refine Also.intro ?_ fun _ => ?_) | (refine Hold.intro fun _ => ?_) | (refine And.intro ?_ ?_))
  obtain ⟨q, rfl⟩ : ∃ q : Nat, p = q := ⟨p.toNat, by omega⟩
  have hq : q < (leftAt sp fl l k).length := by omega
  obtain ⟨a, ha, ha'⟩ := get_ex hq
  have hga : (leftAt sp fl l k).getD q 0 = a := by simp [List.getD, ha]
  rw [Int.toNat_natCast, hga] at hnx
  simp only [fly2, Int.toNat_natCast, hga] at hinv
  have h1' : ¬ (sp.length : Int) ≤ (q : Int) := by omega
  have h0' : ¬ (q : Int) < 0 := by omega
  by_cases h2 : a < f
  · have hR : fly2 sp fl l = false := by rw [hinv, decide_eq_true h2]; simp
    simp -dsimp [hni, hki]
    repeat' (first | omega | (simp -dsimp [E45, ri, cellp, ints, hki, hk1, hk2, hp, hp', hf, hf', h0', h1', hq, ha, ha', h2, hR, hni]) | (refine Also.intro ?_ fun _ => ?_) | (refine Hold.intro fun _ => ?_) | (refine And.intro ?_ ?_))
  rw [decide_eq_true (show (0 : Int) ≤ (q : Nat) by omega), decide_eq_true h1, decide_eq_false h2] at hinv
  simp only [Bool.not_false, Bool.and_self, Bool.true_and] at hinv
  rw [← hnx] at hinv
  simp only [wsub] at hnx
  generalize leftAt sp fl l k = L at *
  simp -dsimp [hni, hki]
  repeat' (first | omega | (simp -dsimp [E45, ri, cellp, ints, hki, hk1, hk2, hp, hp', hf, hf', h0', h1', hq, ha, ha', h2, hwk, hni]) | (refine Also.intro ?_ fun _ => ?_) | (refine Hold.intro fun _ => ?_) | (refine And.intro ?_ ?_))
  refine ⟨k + 1, tle_chain rfl ?_, (by (try simp -dsimp only [hpush_noH, hpush_hps, hps_over]); refine hle_hps ?_; simp -dsimp [allK, hnx, ri]; repeat' (first | (refine And.intro ?_ ?_) | (refine sLe.same ?_ ?_ <;> (simp; done)) | (refine sLe.clear ?_ ?_ <;> (first | (simp; done) | (simp; omega))) | (refine sLe.drop 1 ?_ ?_ ?_ <;> (simp; done)))), ⟨by omega, hinv⟩, by omega⟩
  simp [okAll, okv]
theorem ok45 : FnOK Tryd.prog 45 (.pure fliesS) := pure_fn (E := E45) rfl LOK.nil (ok := []) (fn := Tryd.f45) (by kernel_rfl) (by kernel_rfl) (by kernel_rfl) (by kernel_rfl) rfl (fun _ _ => by simp) b45
end Go.Sx
end
section
/- Parts: the law about the fewest changes (the walk). No conditions. -/
set_option linter.unusedSimpArgs false
set_option linter.unusedSectionVars false
set_option maxRecDepth 100000
set_option maxHeartbeats 4000000
namespace Go.Sx
open Go.Proofs
attribute [local irreducible] HLe
attribute [local simp] hps_app

theorem chk_sp {sp fl : List Int} (h : planChk sp fl = 0) : (∀ x ∈ sp, 0 ≤ x ∧ x ≤ 100000) ∧ ∀ f ∈ fl, 1 ≤ f ∧ f ≤ 100000 := by
  obtain ⟨_, _, h3, h4, _⟩ := chk_facts h
  rw [List.any_eq_false] at h3 h4
  refine ⟨fun x hx => ?_, fun f hf => ?_⟩
  · have := h3 x hx
    simpa [hrB, withinB] using this
  · have := h4 f hf
    simpa [hrB, withinB] using this
theorem rich_chk {sp fl : List Int} (h : planChk sp fl = 0) {k : Nat} {x : Int} (h0 : 0 ≤ x) (h1 : x ≤ 100000) : planChk (sp.set k x) fl = 0 := by
  obtain ⟨a1, a2, a3, a4, _⟩ := chk_facts h
  have hb := (chk_sp h).1
  have a5 : (sp.set k x).any (hrB false) = false := by
    rw [List.any_eq_false]
    intro y hy
    rcases List.mem_or_eq_of_mem_set hy with hy | hy
    · have := hb y hy; simp [hrB, withinB]; omega
    · subst hy; simp [hrB, withinB]; omega
  simp only [planChk, List.length_set]
  rw [if_pos ⟨⟨a1, a2⟩, a5, a4⟩]
theorem planO_fly {sp fl b : List Int} (h : planO sp fl = some b) : flF sp fl b = true := by
  obtain ⟨r, h1, h2⟩ := rPlans_fly fl fl.length [] sp b (by simp) h
  simp only [List.nil_append, List.length_nil, List.drop_zero] at h1 h2
  subst h1
  simp [flF, h2, planO_len h]
theorem planO_best {sp fl o : List Int} (h : flF sp fl o = true) : ∃ b, planO sp fl = some b ∧ le2 b o := by
  simp only [flF, Bool.and_eq_true] at h
  obtain ⟨b, h1, h2⟩ := rPlans_best fl fl.length [] sp o (by simp) (by simpa using h.2)
  exact ⟨b, h1, by simpa using h2⟩
theorem planO_rich {sp fl b : List Int} (hC : planChk sp fl = 0) (h : planO sp fl = some b) {k : Nat} (hk : k < sp.length) {a x : Int} (ha : sp[k] = a) (h0 : 0 ≤ x) (h1 : x ≤ 100000 - a) : ∃ b', planO (sp.set k (a + x)) fl = some b' ∧ chg b' ≤ chg b := by
  obtain ⟨hs, hf⟩ := chk_sp hC
  have hfl := planO_fly h
  simp only [flF, Bool.and_eq_true] at hfl
  have hm : fly2 (sp.set k (a + x)) fl b = true := by
    refine fly2_mono hf (by simp) (fun i hi => ?_) hfl.2
    have hb := hs _ (List.getElem_mem hi)
    have e : sp.getD i 0 = sp[i] := by simp [List.getD, hi]
    by_cases e2 : k = i
    · subst e2
      have e3 : (sp.set k (a + x)).getD k 0 = a + x := by simp [List.getD, hk]
      rw [e, e3]; omega
    · have e3 : (sp.set k (a + x)).getD i 0 = sp.getD i 0 := by simp [List.getD, List.getElem?_set_ne e2]
      rw [e3, e]; omega
  obtain ⟨b', h2, h3⟩ := planO_best (sp := sp.set k (a + x)) (fl := fl) (o := b) (by simp [flF, hm, planO_len h])
  exact ⟨b', h2, le2_chg h3⟩
theorem plan_some {sp fl b : List Int} (hC : planChk sp fl = 0) (h : planO sp fl = some b) : planL sp fl = b ∧ planC sp fl = chg b ∧ planE sp fl = 0 := by simp [planL, planC, planE, hC, h]
theorem plan_none {sp fl : List Int} (hC : planChk sp fl = 0) (h : planO sp fl = none) : planL sp fl = [] ∧ planC sp fl = 0 ∧ planE sp fl = 3 := by
  simp [planL, planC, planE, hC, h]; rfl
structure FwD where
  sp : List Int
  fl : List Int
  l : List Int
  part : Int
  more : Int
  deriving Inhabited
structure FwD.Fine (d : FwD) : Prop where
  sp : d.sp.length ≤ 9223372036854775807
  fl : d.fl.length ≤ 9223372036854775807
  l : d.l.length ≤ 9223372036854775807
@[simp] def fwE (d : FwD) : List V := [ints d.sp, ints d.fl, .agg [ints d.l, .int .i64 d.part, .int .i64 d.more]]
noncomputable abbrev lawFwS : PSpec := mkP fwE FwD.Fine fun _ => .bool true
noncomputable abbrev E14 : Env := { P := Tryd.prog, fn := tbl [(15, .pure worksS), (42, .pure planS), (44, .pure cpS), (45, .pure fliesS), (46, .pure chS)], own := [], key := 1400, nt := 166, frz := [(11, [10])] }
theorem b14 : PureBody E14 [] Tryd.f14 lawFwS := by
  refine pb ?_
  rintro ⟨sp, fl, l, part, more⟩ ⟨b1, b2, b3⟩
  simp only at b1 b2 b3
  have hF : SF.Fine ⟨sp, fl⟩ := ⟨b1, b2⟩
  by_cases hC : planChk sp fl = 0
  case neg =>
    have hC1 : planChk sp fl = 1 := by
      unfold planChk at hC ⊢
      split
      · rename_i h; rw [if_pos h] at hC; exact absurd rfl hC
      · rfl
    simp -dsimp [Tryd.f14, E14, ints]
    repeat' (first | omega | (simp -dsimp [E14, ri, cellp, ints, hF, hC1, ints]) | (refine Also.intro ?_ fun _ => ?_) | (refine Hold.intro fun _ => ?_) | (refine And.intro ?_ ?_))
  by_cases c1 : (4 : Int) < sp.length
  · simp -dsimp [Tryd.f14, E14, ints]
    repeat' (first | omega | (simp -dsimp [E14, ri, cellp, ints, hF, hC, c1, ints]) | (refine Also.intro ?_ fun _ => ?_) | (refine Hold.intro fun _ => ?_) | (refine And.intro ?_ ?_))
  by_cases c2 : (6 : Int) < fl.length
  · simp -dsimp [Tryd.f14, E14, ints]
    repeat' (first | omega | (simp -dsimp [E14, ri, cellp, ints, hF, hC, c1, c2, ints]) | (refine Also.intro ?_ fun _ => ?_) | (refine Hold.intro fun _ => ?_) | (refine And.intro ?_ ?_))
  obtain ⟨hs, hf⟩ := chk_sp hC
  have hFl : FlD.Fine ⟨sp, fl, l⟩ := ⟨by simp only; omega, by simp only; omega, b3⟩
  rcases hO : planO sp fl with _ | b
  · obtain ⟨n1, n2, n3⟩ := plan_none hC hO
    have hfo : flF sp fl l = false := by
      cases h : flF sp fl l
      · rfl
      · obtain ⟨b, h1, _⟩ := planO_best h
        rw [hO] at h1; cases h1
    by_cases q0 : part < 0
    · have q0' : ¬ (0 : Int) ≤ part := by omega
      simp -dsimp [Tryd.f14, E14, ints]
      repeat' (first | omega | (simp -dsimp [E14, ri, cellp, ints, hF, hFl, hC, c1, c2, ints, n1, n2, n3, hfo, q0, q0']) | (refine Also.intro ?_ fun _ => ?_) | (refine Hold.intro fun _ => ?_) | (refine And.intro ?_ ?_))

    have q0' : (0 : Int) ≤ part := by omega
    obtain ⟨k, rfl⟩ : ∃ k : Nat, part = k := ⟨part.toNat, by omega⟩
    by_cases q1 : k < sp.length
    case neg =>
      have q1' : ¬ (k : Int) < sp.length := by omega
      simp -dsimp [Tryd.f14, E14, ints]
      repeat' (first | omega | (simp -dsimp [E14, ri, cellp, ints, hF, hFl, hC, c1, c2, ints, n1, n2, n3, hfo, q0', q1']) | (refine Also.intro ?_ fun _ => ?_) | (refine Hold.intro fun _ => ?_) | (refine And.intro ?_ ?_))

    have q1' : (k : Int) < sp.length := by omega
    obtain ⟨a, ha, ha'⟩ := get_ex q1
    have hab := hs a (ha' ▸ List.getElem_mem q1)
    by_cases q2 : more < 0
    · have q2' : ¬ (0 : Int) ≤ more := by omega
      simp -dsimp [Tryd.f14, E14, ints]
      repeat' (first | omega | (simp -dsimp [E14, ri, cellp, ints, hF, hFl, hC, c1, c2, ints, n1, n2, n3, hfo, q0', q1', q2, q2']) | (refine Also.intro ?_ fun _ => ?_) | (refine Hold.intro fun _ => ?_) | (refine And.intro ?_ ?_))

    have q2' : (0 : Int) ≤ more := by omega
    have w3 : IntKind.wrap .i64 (100000 - a) = 100000 - a := wrap_id (by omega) (by omega)
    by_cases q3 : more ≤ 100000 - a
    case neg =>
      simp -dsimp [Tryd.f14, E14, ints]
      repeat' (first | omega | (simp -dsimp [E14, ri, cellp, ints, hF, hFl, hC, c1, c2, ints, n1, n2, n3, hfo, q0', q1', q1, ha, ha', q2', w3, q3]) | (refine Also.intro ?_ fun _ => ?_) | (refine Hold.intro fun _ => ?_) | (refine And.intro ?_ ?_))

    have hw4 : IntKind.wrap .i64 (a + more) = a + more := wrap_id (by omega) (by omega)
    have hb8 : sp.length * 8 ≤ 140737488355328 := by omega
    have hF2 : SF.Fine ⟨sp.set k (a + more), fl⟩ := ⟨by simp only [List.length_set]; exact b1, b2⟩
    have hC2 := rich_chk (k := k) (x := a + more) hC (by omega) (by omega)
    have r1 : True := trivial
    have r2 : True := trivial
    have r3 : True := trivial
    simp -dsimp [Tryd.f14, E14, ints]
    repeat' (first | omega | (simp -dsimp [E14, ri, cellp, ints, hF, hFl, hC, c1, c2, ints, n1, n2, n3, hfo, q0', q1', q1, ha, ha', q2', w3, q3, hw4, hb8, hF2, r1, r2, r3, ri, map_rowInt]) | (refine Also.intro ?_ fun _ => ?_) | (refine Hold.intro fun _ => ?_) | (refine And.intro ?_ ?_))

  · obtain ⟨n1, n2, n3⟩ := plan_some hC hO
    have hfb := planO_fly hO
    have hbl := planO_len hO
    have hbl' : b.length ≤ 1000000 := by omega
    have hFb : FlD.Fine ⟨sp, fl, b⟩ := ⟨by simp only; omega, by simp only; omega, by simp only; omega⟩
    by_cases q0 : part < 0
    · have q0' : ¬ (0 : Int) ≤ part := by omega
      cases hfo : flF sp fl l
      · simp -dsimp [Tryd.f14, E14, ints]
        repeat' (first | omega | (simp -dsimp [E14, ri, cellp, ints, hF, hFl, hC, c1, c2, ints, n1, n2, n3, hfb, hFb, hbl', q0, q0', hfo]) | (refine Also.intro ?_ fun _ => ?_) | (refine Hold.intro fun _ => ?_) | (refine And.intro ?_ ?_))
      obtain ⟨b0, hO0, hle⟩ := planO_best hfo
      rw [hO] at hO0
      obtain rfl := Option.some.inj hO0
      have hll : l.length = fl.length := by
        simp only [flF, Bool.and_eq_true, decide_eq_true_eq] at hfo; exact hfo.1
      have b3l : l.length ≤ 1000000 := by omega
      have hge : ¬ ((chg l : Nat) : Int) < (chg b : Nat) := by have := le2_chg hle; omega
      simp -dsimp [Tryd.f14, E14, ints]
      repeat' (first | omega | (simp -dsimp [E14, ri, cellp, ints, hF, hFl, hC, c1, c2, ints, n1, n2, n3, hfb, hFb, hbl', q0, q0', hfo, b3l, hge]) | (refine Also.intro ?_ fun _ => ?_) | (refine Hold.intro fun _ => ?_) | (refine And.intro ?_ ?_))
      refine awp_loop [129, 130, 131, 132, 133, 134, 135, 136, 137, 138, 139, 142, 143, 144, 145, 146, 147, 148, 149, 150, 151, 152, 153, 154, 155, 156, 157, 158, 159, 160, 161, 162, 163, 164, 6, 140, 141, 14] (fun i : { i : Nat // i ≤ b.length ∧ ∀ j, j < i → b.getD j 0 = l.getD j 0 } => [(14, (true, .int .i64 (i.1 : Nat)))]) (fun _ => hps [(1405, { base := 0, blks := [{ z := 3, els := [[.sl 1 (l.map ri), .int .i64 part, .int .i64 more]], ty := 76 }] }), (1485, { base := 1, blks := [] })] noH) (fun i => b.length - i.1) ⟨0, by omega, fun j hj => by omega⟩ ?_ ?_ ?_
      · simp [okAll, okv]
      · exact (by (try simp -dsimp only [hpush_noH, hpush_hps, hps_over]); refine hle_hps ?_; simp -dsimp [allK, ]; repeat' (first | (refine And.intro ?_ ?_) | (refine sLe.same ?_ ?_ <;> (simp; done)) | (refine sLe.clear ?_ ?_ <;> (first | (simp; done) | (simp; omega))) | (refine sLe.drop 1 ?_ ?_ ?_ <;> (simp; done))))
      rintro ⟨i, hi, hall⟩
      simp only
      by_cases hib : i < b.length
      case neg =>
        have hin : ¬ (i : Int) < b.length := by omega
        simp -dsimp [hin]
        repeat' (first | omega | (simp -dsimp [E14, ri, cellp, ints, hin]) | (refine Also.intro ?_ fun _ => ?_) | (refine Hold.intro fun _ => ?_) | (refine And.intro ?_ ?_))
      have hii : (i : Int) < b.length := by omega
      by_cases hce : chg l = chg b
      case neg =>
        have hce' : (((chg l : Nat) : Int) = (chg b : Nat)) = False := eq_false (by omega)
        simp -dsimp [hii]
        repeat' (first | omega | (simp -dsimp [E14, ri, cellp, ints, hii, hce', b3l, ints]) | (refine Also.intro ?_ fun _ => ?_) | (refine Hold.intro fun _ => ?_) | (refine And.intro ?_ ?_))
      have hce' : ((chg l : Nat) : Int) = (chg b : Nat) := by omega
      have hil : i < l.length := by omega
      have hili : (i : Int) < l.length := by omega
      have hwi : IntKind.wrap .i64 ((i : Int) + 1) = (i + 1 : Nat) := wrap_id (by omega) (by omega)
      obtain ⟨x, hx, hx'⟩ := get_ex hib
      obtain ⟨y, hy, hy'⟩ := get_ex hil
      have gx : b.getD i 0 = x := by simp [List.getD, hx]
      have gy : l.getD i 0 = y := by simp [List.getD, hy]
      by_cases hxy : x = y
      · simp -dsimp [hii]
        repeat' (first | omega | (simp -dsimp [E14, ri, cellp, ints, hii, hce', b3l, hib, hil, hili, hx, hx', hy, hy', hxy, hwi, ints]) | (refine Also.intro ?_ fun _ => ?_) | (refine Hold.intro fun _ => ?_) | (refine And.intro ?_ ?_))
        refine ⟨i + 1, tle_chain rfl ?_, HLe.refl _, ⟨by omega, fun j hj => ?_⟩, by omega⟩
        · simp [okAll, okv]
        · by_cases e : j = i
          · subst e; simp [hx, hy, hxy]
          · simpa [List.getD] using hall j (by omega)
      · have hlx : x < y := by
          rcases hle with h | ⟨_, h⟩
          · omega
          · have := lexle_at h i hall (by rw [gx, gy]; exact hxy)
            rw [gx, gy] at this; exact this
        have hxy' : (x = y) = False := eq_false hxy
        simp -dsimp [hii]
        repeat' (first | omega | (simp -dsimp [E14, ri, cellp, ints, hii, hce', b3l, hib, hil, hili, hx, hx', hy, hy', hxy', hlx, hwi, ints]) | (refine Also.intro ?_ fun _ => ?_) | (refine Hold.intro fun _ => ?_) | (refine And.intro ?_ ?_))

    have q0' : (0 : Int) ≤ part := by omega
    obtain ⟨k, rfl⟩ : ∃ k : Nat, part = k := ⟨part.toNat, by omega⟩
    by_cases q1 : k < sp.length
    case neg =>
      have q1' : ¬ (k : Int) < sp.length := by omega
      cases hfo : flF sp fl l
      · simp -dsimp [Tryd.f14, E14, ints]
        repeat' (first | omega | (simp -dsimp [E14, ri, cellp, ints, hF, hFl, hC, c1, c2, ints, n1, n2, n3, hfb, hFb, hbl', q0', q1', hfo]) | (refine Also.intro ?_ fun _ => ?_) | (refine Hold.intro fun _ => ?_) | (refine And.intro ?_ ?_))
      obtain ⟨b0, hO0, hle⟩ := planO_best hfo
      rw [hO] at hO0
      obtain rfl := Option.some.inj hO0
      have hll : l.length = fl.length := by
        simp only [flF, Bool.and_eq_true, decide_eq_true_eq] at hfo; exact hfo.1
      have b3l : l.length ≤ 1000000 := by omega
      have hge : ¬ ((chg l : Nat) : Int) < (chg b : Nat) := by have := le2_chg hle; omega
      simp -dsimp [Tryd.f14, E14, ints]
      repeat' (first | omega | (simp -dsimp [E14, ri, cellp, ints, hF, hFl, hC, c1, c2, ints, n1, n2, n3, hfb, hFb, hbl', q0', q1', hfo, b3l, hge]) | (refine Also.intro ?_ fun _ => ?_) | (refine Hold.intro fun _ => ?_) | (refine And.intro ?_ ?_))
      refine awp_loop [129, 130, 131, 132, 133, 134, 135, 136, 137, 138, 139, 142, 143, 144, 145, 146, 147, 148, 149, 150, 151, 152, 153, 154, 155, 156, 157, 158, 159, 160, 161, 162, 163, 164, 6, 140, 141, 14] (fun i : { i : Nat // i ≤ b.length ∧ ∀ j, j < i → b.getD j 0 = l.getD j 0 } => [(14, (true, .int .i64 (i.1 : Nat)))]) (fun _ => hps [(1405, { base := 0, blks := [{ z := 3, els := [[.sl 1 (l.map ri), .int .i64 (k : Nat), .int .i64 more]], ty := 76 }] }), (1485, { base := 1, blks := [] })] noH) (fun i => b.length - i.1) ⟨0, by omega, fun j hj => by omega⟩ ?_ ?_ ?_
      · simp [okAll, okv]
      · exact (by (try simp -dsimp only [hpush_noH, hpush_hps, hps_over]); refine hle_hps ?_; simp -dsimp [allK, ]; repeat' (first | (refine And.intro ?_ ?_) | (refine sLe.same ?_ ?_ <;> (simp; done)) | (refine sLe.clear ?_ ?_ <;> (first | (simp; done) | (simp; omega))) | (refine sLe.drop 1 ?_ ?_ ?_ <;> (simp; done))))
      rintro ⟨i, hi, hall⟩
      simp only
      by_cases hib : i < b.length
      case neg =>
        have hin : ¬ (i : Int) < b.length := by omega
        simp -dsimp [hin]
        repeat' (first | omega | (simp -dsimp [E14, ri, cellp, ints, hin]) | (refine Also.intro ?_ fun _ => ?_) | (refine Hold.intro fun _ => ?_) | (refine And.intro ?_ ?_))
      have hii : (i : Int) < b.length := by omega
      by_cases hce : chg l = chg b
      case neg =>
        have hce' : (((chg l : Nat) : Int) = (chg b : Nat)) = False := eq_false (by omega)
        simp -dsimp [hii]
        repeat' (first | omega | (simp -dsimp [E14, ri, cellp, ints, hii, hce', b3l, ints]) | (refine Also.intro ?_ fun _ => ?_) | (refine Hold.intro fun _ => ?_) | (refine And.intro ?_ ?_))
      have hce' : ((chg l : Nat) : Int) = (chg b : Nat) := by omega
      have hil : i < l.length := by omega
      have hili : (i : Int) < l.length := by omega
      have hwi : IntKind.wrap .i64 ((i : Int) + 1) = (i + 1 : Nat) := wrap_id (by omega) (by omega)
      obtain ⟨x, hx, hx'⟩ := get_ex hib
      obtain ⟨y, hy, hy'⟩ := get_ex hil
      have gx : b.getD i 0 = x := by simp [List.getD, hx]
      have gy : l.getD i 0 = y := by simp [List.getD, hy]
      by_cases hxy : x = y
      · simp -dsimp [hii]
        repeat' (first | omega | (simp -dsimp [E14, ri, cellp, ints, hii, hce', b3l, hib, hil, hili, hx, hx', hy, hy', hxy, hwi, ints]) | (refine Also.intro ?_ fun _ => ?_) | (refine Hold.intro fun _ => ?_) | (refine And.intro ?_ ?_))
        refine ⟨i + 1, tle_chain rfl ?_, HLe.refl _, ⟨by omega, fun j hj => ?_⟩, by omega⟩
        · simp [okAll, okv]
        · by_cases e : j = i
          · subst e; simp [hx, hy, hxy]
          · simpa [List.getD] using hall j (by omega)
      · have hlx : x < y := by
          rcases hle with h | ⟨_, h⟩
          · omega
          · have := lexle_at h i hall (by rw [gx, gy]; exact hxy)
            rw [gx, gy] at this; exact this
        have hxy' : (x = y) = False := eq_false hxy
        simp -dsimp [hii]
        repeat' (first | omega | (simp -dsimp [E14, ri, cellp, ints, hii, hce', b3l, hib, hil, hili, hx, hx', hy, hy', hxy', hlx, hwi, ints]) | (refine Also.intro ?_ fun _ => ?_) | (refine Hold.intro fun _ => ?_) | (refine And.intro ?_ ?_))

    have q1' : (k : Int) < sp.length := by omega
    obtain ⟨a, ha, ha'⟩ := get_ex q1
    have hab := hs a (ha' ▸ List.getElem_mem q1)
    by_cases q2 : more < 0
    · have q2' : ¬ (0 : Int) ≤ more := by omega
      cases hfo : flF sp fl l
      · simp -dsimp [Tryd.f14, E14, ints]
        repeat' (first | omega | (simp -dsimp [E14, ri, cellp, ints, hF, hFl, hC, c1, c2, ints, n1, n2, n3, hfb, hFb, hbl', q0', q1', q2, q2', hfo]) | (refine Also.intro ?_ fun _ => ?_) | (refine Hold.intro fun _ => ?_) | (refine And.intro ?_ ?_))
      obtain ⟨b0, hO0, hle⟩ := planO_best hfo
      rw [hO] at hO0
      obtain rfl := Option.some.inj hO0
      have hll : l.length = fl.length := by
        simp only [flF, Bool.and_eq_true, decide_eq_true_eq] at hfo; exact hfo.1
      have b3l : l.length ≤ 1000000 := by omega
      have hge : ¬ ((chg l : Nat) : Int) < (chg b : Nat) := by have := le2_chg hle; omega
      simp -dsimp [Tryd.f14, E14, ints]
      repeat' (first | omega | (simp -dsimp [E14, ri, cellp, ints, hF, hFl, hC, c1, c2, ints, n1, n2, n3, hfb, hFb, hbl', q0', q1', q2, q2', hfo, b3l, hge]) | (refine Also.intro ?_ fun _ => ?_) | (refine Hold.intro fun _ => ?_) | (refine And.intro ?_ ?_))
      refine awp_loop [129, 130, 131, 132, 133, 134, 135, 136, 137, 138, 139, 142, 143, 144, 145, 146, 147, 148, 149, 150, 151, 152, 153, 154, 155, 156, 157, 158, 159, 160, 161, 162, 163, 164, 6, 140, 141, 14] (fun i : { i : Nat // i ≤ b.length ∧ ∀ j, j < i → b.getD j 0 = l.getD j 0 } => [(14, (true, .int .i64 (i.1 : Nat)))]) (fun _ => hps [(1405, { base := 0, blks := [{ z := 3, els := [[.sl 1 (l.map ri), .int .i64 (k : Nat), .int .i64 more]], ty := 76 }] }), (1485, { base := 1, blks := [] })] noH) (fun i => b.length - i.1) ⟨0, by omega, fun j hj => by omega⟩ ?_ ?_ ?_
      · simp [okAll, okv]
      · exact (by (try simp -dsimp only [hpush_noH, hpush_hps, hps_over]); refine hle_hps ?_; simp -dsimp [allK, ]; repeat' (first | (refine And.intro ?_ ?_) | (refine sLe.same ?_ ?_ <;> (simp; done)) | (refine sLe.clear ?_ ?_ <;> (first | (simp; done) | (simp; omega))) | (refine sLe.drop 1 ?_ ?_ ?_ <;> (simp; done))))
      rintro ⟨i, hi, hall⟩
      simp only
      by_cases hib : i < b.length
      case neg =>
        have hin : ¬ (i : Int) < b.length := by omega
        simp -dsimp [hin]
        repeat' (first | omega | (simp -dsimp [E14, ri, cellp, ints, hin]) | (refine Also.intro ?_ fun _ => ?_) | (refine Hold.intro fun _ => ?_) | (refine And.intro ?_ ?_))
      have hii : (i : Int) < b.length := by omega
      by_cases hce : chg l = chg b
      case neg =>
        have hce' : (((chg l : Nat) : Int) = (chg b : Nat)) = False := eq_false (by omega)
        simp -dsimp [hii]
        repeat' (first | omega | (simp -dsimp [E14, ri, cellp, ints, hii, hce', b3l, ints]) | (refine Also.intro ?_ fun _ => ?_) | (refine Hold.intro fun _ => ?_) | (refine And.intro ?_ ?_))
      have hce' : ((chg l : Nat) : Int) = (chg b : Nat) := by omega
      have hil : i < l.length := by omega
      have hili : (i : Int) < l.length := by omega
      have hwi : IntKind.wrap .i64 ((i : Int) + 1) = (i + 1 : Nat) := wrap_id (by omega) (by omega)
      obtain ⟨x, hx, hx'⟩ := get_ex hib
      obtain ⟨y, hy, hy'⟩ := get_ex hil
      have gx : b.getD i 0 = x := by simp [List.getD, hx]
      have gy : l.getD i 0 = y := by simp [List.getD, hy]
      by_cases hxy : x = y
      · simp -dsimp [hii]
        repeat' (first | omega | (simp -dsimp [E14, ri, cellp, ints, hii, hce', b3l, hib, hil, hili, hx, hx', hy, hy', hxy, hwi, ints]) | (refine Also.intro ?_ fun _ => ?_) | (refine Hold.intro fun _ => ?_) | (refine And.intro ?_ ?_))
        refine ⟨i + 1, tle_chain rfl ?_, HLe.refl _, ⟨by omega, fun j hj => ?_⟩, by omega⟩
        · simp [okAll, okv]
        · by_cases e : j = i
          · subst e; simp [hx, hy, hxy]
          · simpa [List.getD] using hall j (by omega)
      · have hlx : x < y := by
          rcases hle with h | ⟨_, h⟩
          · omega
          · have := lexle_at h i hall (by rw [gx, gy]; exact hxy)
            rw [gx, gy] at this; exact this
        have hxy' : (x = y) = False := eq_false hxy
        simp -dsimp [hii]
        repeat' (first | omega | (simp -dsimp [E14, ri, cellp, ints, hii, hce', b3l, hib, hil, hili, hx, hx', hy, hy', hxy', hlx, hwi, ints]) | (refine Also.intro ?_ fun _ => ?_) | (refine Hold.intro fun _ => ?_) | (refine And.intro ?_ ?_))

    have q2' : (0 : Int) ≤ more := by omega
    have w3 : IntKind.wrap .i64 (100000 - a) = 100000 - a := wrap_id (by omega) (by omega)
    by_cases q3 : more ≤ 100000 - a
    case neg =>
      cases hfo : flF sp fl l
      · simp -dsimp [Tryd.f14, E14, ints]
        repeat' (first | omega | (simp -dsimp [E14, ri, cellp, ints, hF, hFl, hC, c1, c2, ints, n1, n2, n3, hfb, hFb, hbl', q0', q1', q1, ha, ha', q2', w3, q3, hfo]) | (refine Also.intro ?_ fun _ => ?_) | (refine Hold.intro fun _ => ?_) | (refine And.intro ?_ ?_))
      obtain ⟨b0, hO0, hle⟩ := planO_best hfo
      rw [hO] at hO0
      obtain rfl := Option.some.inj hO0
      have hll : l.length = fl.length := by
        simp only [flF, Bool.and_eq_true, decide_eq_true_eq] at hfo; exact hfo.1
      have b3l : l.length ≤ 1000000 := by omega
      have hge : ¬ ((chg l : Nat) : Int) < (chg b : Nat) := by have := le2_chg hle; omega
      simp -dsimp [Tryd.f14, E14, ints]
      repeat' (first | omega | (simp -dsimp [E14, ri, cellp, ints, hF, hFl, hC, c1, c2, ints, n1, n2, n3, hfb, hFb, hbl', q0', q1', q1, ha, ha', q2', w3, q3, hfo, b3l, hge]) | (refine Also.intro ?_ fun _ => ?_) | (refine Hold.intro fun _ => ?_) | (refine And.intro ?_ ?_))
      refine awp_loop [129, 130, 131, 132, 133, 134, 135, 136, 137, 138, 139, 142, 143, 144, 145, 146, 147, 148, 149, 150, 151, 152, 153, 154, 155, 156, 157, 158, 159, 160, 161, 162, 163, 164, 6, 140, 141, 14] (fun i : { i : Nat // i ≤ b.length ∧ ∀ j, j < i → b.getD j 0 = l.getD j 0 } => [(14, (true, .int .i64 (i.1 : Nat)))]) (fun _ => hps [(1405, { base := 0, blks := [{ z := 3, els := [[.sl 1 (l.map ri), .int .i64 (k : Nat), .int .i64 more]], ty := 76 }] }), (1485, { base := 1, blks := [] })] noH) (fun i => b.length - i.1) ⟨0, by omega, fun j hj => by omega⟩ ?_ ?_ ?_
      · simp [okAll, okv]
      · exact (by (try simp -dsimp only [hpush_noH, hpush_hps, hps_over]); refine hle_hps ?_; simp -dsimp [allK, ]; repeat' (first | (refine And.intro ?_ ?_) | (refine sLe.same ?_ ?_ <;> (simp; done)) | (refine sLe.clear ?_ ?_ <;> (first | (simp; done) | (simp; omega))) | (refine sLe.drop 1 ?_ ?_ ?_ <;> (simp; done))))
      rintro ⟨i, hi, hall⟩
      simp only
      by_cases hib : i < b.length
      case neg =>
        have hin : ¬ (i : Int) < b.length := by omega
        simp -dsimp [hin]
        repeat' (first | omega | (simp -dsimp [E14, ri, cellp, ints, hin]) | (refine Also.intro ?_ fun _ => ?_) | (refine Hold.intro fun _ => ?_) | (refine And.intro ?_ ?_))
      have hii : (i : Int) < b.length := by omega
      by_cases hce : chg l = chg b
      case neg =>
        have hce' : (((chg l : Nat) : Int) = (chg b : Nat)) = False := eq_false (by omega)
        simp -dsimp [hii]
        repeat' (first | omega | (simp -dsimp [E14, ri, cellp, ints, hii, hce', b3l, ints]) | (refine Also.intro ?_ fun _ => ?_) | (refine Hold.intro fun _ => ?_) | (refine And.intro ?_ ?_))
      have hce' : ((chg l : Nat) : Int) = (chg b : Nat) := by omega
      have hil : i < l.length := by omega
      have hili : (i : Int) < l.length := by omega
      have hwi : IntKind.wrap .i64 ((i : Int) + 1) = (i + 1 : Nat) := wrap_id (by omega) (by omega)
      obtain ⟨x, hx, hx'⟩ := get_ex hib
      obtain ⟨y, hy, hy'⟩ := get_ex hil
      have gx : b.getD i 0 = x := by simp [List.getD, hx]
      have gy : l.getD i 0 = y := by simp [List.getD, hy]
      by_cases hxy : x = y
      · simp -dsimp [hii]
        repeat' (first | omega | (simp -dsimp [E14, ri, cellp, ints, hii, hce', b3l, hib, hil, hili, hx, hx', hy, hy', hxy, hwi, ints]) | (refine Also.intro ?_ fun _ => ?_) | (refine Hold.intro fun _ => ?_) | (refine And.intro ?_ ?_))
        refine ⟨i + 1, tle_chain rfl ?_, HLe.refl _, ⟨by omega, fun j hj => ?_⟩, by omega⟩
        · simp [okAll, okv]
        · by_cases e : j = i
          · subst e; simp [hx, hy, hxy]
          · simpa [List.getD] using hall j (by omega)
      · have hlx : x < y := by
          rcases hle with h | ⟨_, h⟩
          · omega
          · have := lexle_at h i hall (by rw [gx, gy]; exact hxy)
            rw [gx, gy] at this; exact this
        have hxy' : (x = y) = False := eq_false hxy
        simp -dsimp [hii]
        repeat' (first | omega | (simp -dsimp [E14, ri, cellp, ints, hii, hce', b3l, hib, hil, hili, hx, hx', hy, hy', hxy', hlx, hwi, ints]) | (refine Also.intro ?_ fun _ => ?_) | (refine Hold.intro fun _ => ?_) | (refine And.intro ?_ ?_))

    have hw4 : IntKind.wrap .i64 (a + more) = a + more := wrap_id (by omega) (by omega)
    have hb8 : sp.length * 8 ≤ 140737488355328 := by omega
    have hF2 : SF.Fine ⟨sp.set k (a + more), fl⟩ := ⟨by simp only [List.length_set]; exact b1, b2⟩
    have hC2 := rich_chk (k := k) (x := a + more) hC (by omega) (by omega)
    obtain ⟨b', hO2, hcb⟩ := planO_rich hC hO q1 ha' q2' q3
    obtain ⟨r1, r2, r3⟩ := plan_some hC2 hO2
    have hgt : ¬ ((chg b : Nat) : Int) < (chg b' : Nat) := by omega
    cases hfo : flF sp fl l
    · simp -dsimp [Tryd.f14, E14, ints]
      repeat' (first | omega | (simp -dsimp [E14, ri, cellp, ints, hF, hFl, hC, c1, c2, ints, n1, n2, n3, hfb, hFb, hbl', q0', q1', q1, ha, ha', q2', w3, q3, hw4, hb8, hF2, r1, r2, r3, ri, map_rowInt, hgt, hfo]) | (refine Also.intro ?_ fun _ => ?_) | (refine Hold.intro fun _ => ?_) | (refine And.intro ?_ ?_))
    obtain ⟨b0, hO0, hle⟩ := planO_best hfo
    rw [hO] at hO0
    obtain rfl := Option.some.inj hO0
    have hll : l.length = fl.length := by
      simp only [flF, Bool.and_eq_true, decide_eq_true_eq] at hfo; exact hfo.1
    have b3l : l.length ≤ 1000000 := by omega
    have hge : ¬ ((chg l : Nat) : Int) < (chg b : Nat) := by have := le2_chg hle; omega
    simp -dsimp [Tryd.f14, E14, ints]
    repeat' (first | omega | (simp -dsimp [E14, ri, cellp, ints, hF, hFl, hC, c1, c2, ints, n1, n2, n3, hfb, hFb, hbl', q0', q1', q1, ha, ha', q2', w3, q3, hw4, hb8, hF2, r1, r2, r3, ri, map_rowInt, hgt, hfo, b3l, hge]) | (refine Also.intro ?_ fun _ => ?_) | (refine Hold.intro fun _ => ?_) | (refine And.intro ?_ ?_))
    refine awp_loop [129, 130, 131, 132, 133, 134, 135, 136, 137, 138, 139, 142, 143, 144, 145, 146, 147, 148, 149, 150, 151, 152, 153, 154, 155, 156, 157, 158, 159, 160, 161, 162, 163, 164, 6, 140, 141, 14] (fun i : { i : Nat // i ≤ b.length ∧ ∀ j, j < i → b.getD j 0 = l.getD j 0 } => [(14, (true, .int .i64 (i.1 : Nat)))]) (fun _ => hps [(1405, { base := 0, blks := [{ z := 3, els := [[.sl 1 (l.map ri), .int .i64 (k : Nat), .int .i64 more]], ty := 76 }] }), (1485, { base := 1, blks := [] })] noH) (fun i => b.length - i.1) ⟨0, by omega, fun j hj => by omega⟩ ?_ ?_ ?_
    · simp [okAll, okv]
    · exact (by (try simp -dsimp only [hpush_noH, hpush_hps, hps_over]); refine hle_hps ?_; simp -dsimp [allK, ]; repeat' (first | (refine And.intro ?_ ?_) | (refine sLe.same ?_ ?_ <;> (simp; done)) | (refine sLe.clear ?_ ?_ <;> (first | (simp; done) | (simp; omega))) | (refine sLe.drop 1 ?_ ?_ ?_ <;> (simp; done))))
    rintro ⟨i, hi, hall⟩
    simp only
    by_cases hib : i < b.length
    case neg =>
      have hin : ¬ (i : Int) < b.length := by omega
      simp -dsimp [hin]
      repeat' (first | omega | (simp -dsimp [E14, ri, cellp, ints, hin]) | (refine Also.intro ?_ fun _ => ?_) | (refine Hold.intro fun _ => ?_) | (refine And.intro ?_ ?_))
    have hii : (i : Int) < b.length := by omega
    by_cases hce : chg l = chg b
    case neg =>
      have hce' : (((chg l : Nat) : Int) = (chg b : Nat)) = False := eq_false (by omega)
      simp -dsimp [hii]
      repeat' (first | omega | (simp -dsimp [E14, ri, cellp, ints, hii, hce', b3l, ints]) | (refine Also.intro ?_ fun _ => ?_) | (refine Hold.intro fun _ => ?_) | (refine And.intro ?_ ?_))
    have hce' : ((chg l : Nat) : Int) = (chg b : Nat) := by omega
    have hil : i < l.length := by omega
    have hili : (i : Int) < l.length := by omega
    have hwi : IntKind.wrap .i64 ((i : Int) + 1) = (i + 1 : Nat) := wrap_id (by omega) (by omega)
    obtain ⟨x, hx, hx'⟩ := get_ex hib
    obtain ⟨y, hy, hy'⟩ := get_ex hil
    have gx : b.getD i 0 = x := by simp [List.getD, hx]
    have gy : l.getD i 0 = y := by simp [List.getD, hy]
    by_cases hxy : x = y
    · simp -dsimp [hii]
      repeat' (first | omega | (simp -dsimp [E14, ri, cellp, ints, hii, hce', b3l, hib, hil, hili, hx, hx', hy, hy', hxy, hwi, ints]) | (refine Also.intro ?_ fun _ => ?_) | (refine Hold.intro fun _ => ?_) | (refine And.intro ?_ ?_))
      refine ⟨i + 1, tle_chain rfl ?_, HLe.refl _, ⟨by omega, fun j hj => ?_⟩, by omega⟩
      · simp [okAll, okv]
      · by_cases e : j = i
        · subst e; simp [hx, hy, hxy]
        · simpa [List.getD] using hall j (by omega)
    · have hlx : x < y := by
        rcases hle with h | ⟨_, h⟩
        · omega
        · have := lexle_at h i hall (by rw [gx, gy]; exact hxy)
          rw [gx, gy] at this; exact this
      have hxy' : (x = y) = False := eq_false hxy
      simp -dsimp [hii]
      repeat' (first | omega | (simp -dsimp [E14, ri, cellp, ints, hii, hce', b3l, hib, hil, hili, hx, hx', hy, hy', hxy', hlx, hwi, ints]) | (refine Also.intro ?_ fun _ => ?_) | (refine Hold.intro fun _ => ?_) | (refine And.intro ?_ ?_))

theorem ok14 : FnOK Tryd.prog 14 (.pure lawFwS) := pure_fn (E := E14) rfl (.cons ok15 (.cons ok42 (.cons ok44 (.cons ok45 (.cons ok46 .nil))))) (ok := []) (fn := Tryd.f14) (by kernel_rfl) (by kernel_rfl) (by kernel_rfl) (by kernel_rfl) rfl (fun _ _ => by simp) b14
end Go.Sx
end
