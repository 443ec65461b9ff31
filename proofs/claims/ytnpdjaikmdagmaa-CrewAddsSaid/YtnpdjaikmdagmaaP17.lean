/- A part of a proof; no conditions. -/
import Derived.Test.YtnpdjaikmdagmaaP16
import Derived.Test.YtnpdjaikmdagmaaP11
set_option linter.unusedSimpArgs false
set_option linter.unusedVariables false
set_option linter.unusedSectionVars false
section
/- Crew: seatings, what they weigh. No conditions. -/
set_option linter.unusedSimpArgs false
set_option linter.unusedSectionVars false
set_option maxRecDepth 100000
set_option maxHeartbeats 2000000
namespace Go.Sx
open Go.Proofs
attribute [local irreducible] HLe

/-! a number in a list -/
def isN (n : Int) (x : Int) : Bool := decide (n = x)
@[simp] def inE (d : List Int × Int) : List V := [.sl 1 (d.1.map ri), .int .i64 d.2]
theorem inE_inj (a b : List Int × Int) (h : inE a = inE b) : a = b := by
  obtain ⟨a1, a2⟩ := a; obtain ⟨b1, b2⟩ := b
  simp only [inE, List.cons.injEq, V.sl.injEq, V.int.injEq, true_and, and_true] at h
  rw [map_ri_inj h.1, h.2]
theorem inE_dec (l : List Int) (n : Int) : decC inE [.sl 1 (l.map ri), .int .i64 n] = (l, n) := decC_eq inE_inj (l, n)
noncomputable abbrev inxS : PSpec := mkP inE (fun d => d.1.length ≤ 1000000) fun d => .int .i64 (idxZ d.1 (isN d.2))
noncomputable abbrev conS : PSpec := mkP inE (fun d => d.1.length ≤ 1000000) fun d => .bool (d.1.contains d.2)
noncomputable abbrev E97 : Env := { P := Try.prog, fn := tbl [], own := [], key := 9700, nt := 19 }
theorem b97 : PureBody E97 [] Try.f97 inxS := by
  refine pb ?_
  rintro ⟨l, n⟩ hl
  have hl : l.length ≤ 1000000 := hl
  simp -dsimp [Try.f97, E97]
  refine awp_loop [9, 10, 5, 11, 12, 13, 14, 15, 16, 17, 4, 18, 8] (fun k : { k : Nat // k ≤ l.length ∧ ∀ j (h : j < l.length), j < k → isN n l[j] = false } => [(8, (true, .int .i64 k.1))]) (fun _ => noH) (fun k => l.length - k.1) ⟨0, by omega, fun _ _ h => by omega⟩ ?_ (HLe.refl _) ?_
  · simp [okAll, okv]
  rintro ⟨k, hk, hall⟩
  by_cases hk1 : k < l.length
  · have hki : (k : Int) < l.length := by omega
    have wk : IntKind.wrap .i64 ((k : Int) + 1) = (k + 1 : Nat) := wrap_id (by omega) (by omega)
    obtain ⟨x, hx⟩ : ∃ x, l[k]? = some x := ⟨_, List.getElem?_eq_getElem hk1⟩
    have hx' : l[k] = x := (List.getElem?_eq_some_iff.1 hx).2
    by_cases hw : n = x
    · have hz := idxZ_at l (isN n) hk1 (by rw [hx']; simpa [isN] using hw) hall
      simp -dsimp [hki]
      repeat' (first | omega | (simp -dsimp [E97, ri, cellp, ints, hki, hk1, hl, hx, hx', hw, wk, hz]) | (refine Also.intro ?_ fun _ => ?_) | (refine Hold.intro fun _ => ?_) | (refine And.intro ?_ ?_))
      all_goals (subst hw; simp [hz])
    · have hw' : (n = x) = False := eq_false hw
      simp -dsimp [hki]
      repeat' (first | omega | (simp -dsimp [E97, ri, cellp, ints, hki, hk1, hl, hx, hx', hw', wk]) | (refine Also.intro ?_ fun _ => ?_) | (refine Hold.intro fun _ => ?_) | (refine And.intro ?_ ?_))
      refine ⟨k + 1, tle_chain rfl ?_, HLe.refl _, ⟨by omega, fun j h hj => ?_⟩, by omega⟩
      · simp [okAll, okv]
      · by_cases hjk : j = k
        · subst hjk; rw [hx']; simpa [isN] using hw
        · exact hall j h (by omega)
  · have hkn : ¬ (k : Int) < l.length := by omega
    have hz := idxZ_none l (isN n) (fun j h => hall j h (by omega))
    simp -dsimp [hkn]
    repeat' (first | omega | (simp -dsimp [E97, ri, cellp, ints, hkn, hz]) | (refine Also.intro ?_ fun _ => ?_) | (refine Hold.intro fun _ => ?_) | (refine And.intro ?_ ?_))
theorem ok97 : FnOK Try.prog 97 (.pure inxS) := pure_fn (E := E97) rfl LOK.nil (ok := []) (fn := Try.f97) (by kernel_rfl) (by kernel_rfl) (by kernel_rfl) (by kernel_rfl) rfl (fun _ _ => by simp) b97
theorem con_any (l : List Int) (n : Int) : l.contains n = decide (0 ≤ idxZ l (isN n)) := by
  have h : l.contains n = l.any (isN n) := by
    induction l with
    | nil => rfl
    | cons x l ih => rw [List.contains_cons, List.any_cons, ih, isN]; rfl
  rw [h, idxZ_any]
theorem mem_idx (l : List Int) (n : Int) : (n ∈ l) = (0 ≤ idxZ l (isN n)) := by
  have := con_any l n
  rw [Bool.eq_iff_iff] at this
  simpa using this
noncomputable abbrev E71 : Env := { P := Try.prog, fn := tbl [(97, .pure inxS)], own := [], key := 7100, nt := 9 }
theorem b71 : PureBody E71 [] Try.f71 conS := by
  refine pb ?_
  rintro ⟨l, n⟩ hl
  have hl : l.length ≤ 1000000 := hl
  have hz := mem_idx l n
  simp -dsimp [Try.f71, E71]
  repeat' (first | omega | (simp -dsimp [E71, ri, cellp, ints, hl, inE_dec, hz]) | (refine Also.intro ?_ fun _ => ?_) | (refine Hold.intro fun _ => ?_) | (refine And.intro ?_ ?_))
theorem ok71 : FnOK Try.prog 71 (.pure conS) := pure_fn (E := E71) rfl (.cons ok97 .nil) (ok := []) (fn := Try.f71) (by kernel_rfl) (by kernel_rfl) (by kernel_rfl) (by kernel_rfl) rfl (fun _ _ => by simp) b71

/-! a seat -/
@[simp] def siE (d : Ca × Gu × List Int × Int) : List V := [.agg d.1.row, .agg d.2.1.row, .sl 1 (d.2.2.1.map ri), .int .i64 d.2.2.2]
theorem siE_inj (a b : Ca × Gu × List Int × Int) (h : siE a = siE b) : a = b := by
  obtain ⟨a1, a2, a3, a4⟩ := a; obtain ⟨b1, b2, b3, b4⟩ := b
  simp only [siE, List.cons.injEq, V.sl.injEq, V.int.injEq, V.agg.injEq, true_and, and_true] at h
  rw [Ca.row_inj _ _ h.1, Gu.row_inj _ _ h.2.1, map_ri_inj h.2.2.1, h.2.2.2]
theorem siE_dec (c : Ca) (g : Gu) (l : List Int) (n : Int) : decC siE [.agg [.int .i64 c.emp, .int .i64 c.arm, .sl 2 (c.st.map Se.row), .int .i64 c.farm, .int .i64 c.low, .int .i64 c.high], .agg [.int .i64 g.w, .bool g.suit, .int .i64 g.dive, .bool g.able], .sl 1 (l.map ri), .int .i64 n] = (c, g, l, n) := decC_eq siE_inj (c, g, l, n)
structure SiP (d : Ca × Gu × List Int × Int) : Prop where
  c : d.1.st.length ≤ 1000000
  b : d.2.2.1.length ≤ 1000000
/-- A nil slice is a slice of no elements. -/
def nf2 : List V → List V
  | [a, b, .nil, d] => [a, b, .sl 1 [], d]
  | [a, b, .emp, d] => [a, b, .sl 1 [], d]
  | l => l
theorem nf2_nil (a b d : V) : nf2 [a, b, .nil, d] = [a, b, .sl 1 [], d] := rfl
theorem nf2_emp (a b d : V) : nf2 [a, b, .emp, d] = [a, b, .sl 1 [], d] := rfl
theorem nf2_sl (a b d : V) (z : Nat) (els : List (List V)) : nf2 [a, b, .sl z els, d] = [a, b, .sl z els, d] := rfl
noncomputable abbrev sitsS : PSpec := { dom := Ca × Gu × List Int × Int, enc := siE, dec := fun l => decC siE (nf2 l), pre := SiP, res := fun d => .bool (sitsB d.1 d.2.1 d.2.2.1 d.2.2.2) }
noncomputable abbrev E48 : Env := { P := Try.prog, fn := tbl [(42, .pure withinS), (71, .pure conS)], own := [], key := 4800, nt := 34 }
theorem b48 : PureBody E48 [] Try.f48 sitsS := by
  refine pb ?_
  rintro ⟨c, g, l, n⟩ ⟨hc, hl⟩
  simp only at hc hl
  have hS : sitsB c g l n = (withinB n 0 (c.st.length - 1) && !l.contains n && (g.able || !(c.st.getD n.toNat default).ex)) := rfl
  have hwp : IntKind.wrap .i64 ((c.st.length : Int) - 1) = c.st.length - 1 := wrap_id (by omega) (by omega)
  cases h1 : withinB n 0 (c.st.length - 1)
  · rw [h1] at hS
    simp -dsimp [Try.f48, E48, Ca.row, Gu.row]
    repeat' (first | omega | (simp -dsimp [E48, ri, cellp, ints, Ca.row, Gu.row, hwp, h1, hS]) | (refine Also.intro ?_ fun _ => ?_) | (refine Hold.intro fun _ => ?_) | (refine And.intro ?_ ?_))
  have hn : 0 ≤ n ∧ n ≤ c.st.length - 1 := by simpa [withinB] using h1
  obtain ⟨k, rfl⟩ : ∃ k : Nat, n = k := ⟨n.toNat, by omega⟩
  have hk : k < c.st.length := by omega
  obtain ⟨s, hs⟩ : ∃ s, c.st[k]? = some s := ⟨_, List.getElem?_eq_getElem hk⟩
  have hs' : c.st[k] = s := (List.getElem?_eq_some_iff.1 hs).2
  have hsd : c.st.getD (k : Int).toNat default = s := by simp [List.getD, hs]
  rw [h1, hsd] at hS
  have hki : (k : Int) < c.st.length := by omega
  cases h2 : l.contains (k : Int) <;> rw [h2] at hS
  · have h2 : ((k : Int) ∈ l) = False := eq_false (by simpa using h2)
    cases h3 : g.able <;> rw [h3] at hS
    · simp -dsimp [Try.f48, E48, Ca.row, Gu.row]
      repeat' (first | omega | (simp -dsimp [E48, ri, cellp, ints, Ca.row, Gu.row, Se.row, hwp, h1, h2, h3, hl, hs, hs', hk, hki, inE_dec, hS]) | (refine Also.intro ?_ fun _ => ?_) | (refine Hold.intro fun _ => ?_) | (refine And.intro ?_ ?_))
    · simp -dsimp [Try.f48, E48, Ca.row, Gu.row]
      repeat' (first | omega | (simp -dsimp [E48, ri, cellp, ints, Ca.row, Gu.row, Se.row, hwp, h1, h2, h3, hl, hs, hs', hk, hki, inE_dec, hS]) | (refine Also.intro ?_ fun _ => ?_) | (refine Hold.intro fun _ => ?_) | (refine And.intro ?_ ?_))
  · have h2 : ((k : Int) ∈ l) = True := eq_true (by simpa using h2)
    simp -dsimp [Try.f48, E48, Ca.row, Gu.row]
    repeat' (first | omega | (simp -dsimp [E48, ri, cellp, ints, Ca.row, Gu.row, Se.row, hwp, h1, h2, hl, hs, hs', hk, hki, inE_dec, hS]) | (refine Also.intro ?_ fun _ => ?_) | (refine Hold.intro fun _ => ?_) | (refine And.intro ?_ ?_))
theorem ok48 : FnOK Try.prog 48 (.pure sitsS) := pure_fn (E := E48) rfl (.cons ok42 (.cons ok71 .nil)) (ok := []) (fn := Try.f48) (by kernel_rfl) (by kernel_rfl) (by kernel_rfl) (by kernel_rfl) rfl (fun _ _ => by simp) b48

/-! a seating -/
@[simp] def rtE (d : Ca × List Gu × List Int) : List V := [.agg d.1.row, .sl 4 (d.2.1.map Gu.row), .sl 1 (d.2.2.map ri)]
theorem rtE_inj (a b : Ca × List Gu × List Int) (h : rtE a = rtE b) : a = b := by
  obtain ⟨a1, a2, a3⟩ := a; obtain ⟨b1, b2, b3⟩ := b
  simp only [rtE, List.cons.injEq, V.sl.injEq, V.agg.injEq, true_and, and_true] at h
  rw [Ca.row_inj _ _ h.1, mapRow_inj Gu.row_inj h.2.1, map_ri_inj h.2.2]
theorem rtE_dec (c : Ca) (l : List Gu) (s : List Int) : decC rtE [.agg [.int .i64 c.emp, .int .i64 c.arm, .sl 2 (c.st.map Se.row), .int .i64 c.farm, .int .i64 c.low, .int .i64 c.high], .sl 4 (l.map Gu.row), .sl 1 (s.map ri)] = (c, l, s) := decC_eq rtE_inj (c, l, s)
structure RtP (d : Ca × List Gu × List Int) : Prop where
  c : d.1.st.length ≤ 1000000
  l : d.2.1.length ≤ 1000000
  s : d.2.2.length ≤ 1000000
noncomputable abbrev rightS : PSpec := mkP rtE RtP fun d => .bool (rightB d.1 d.2.1 d.2.2)
theorem right_no {c : Ca} {l : List Gu} {s : List Int} (h : s.length ≠ l.length) : rightB c l s = false := by simp [rightB, h]
theorem right_bad {c : Ca} {l : List Gu} {s : List Int} {k : Nat} (hk : k < l.length) (h : seatOk c l s k = false) : rightB c l s = false := by
  have : (List.range l.length).all (fun i => seatOk c l s i) = false := by
    rw [List.all_eq_false]; exact ⟨k, by simpa using hk, by simp [h]⟩
  rw [rightB, this, Bool.and_false]
theorem right_ok {c : Ca} {l : List Gu} {s : List Int} (h0 : s.length = l.length) (h : ∀ j, j < l.length → seatOk c l s j = true) : rightB c l s = true := by
  have : (List.range l.length).all (fun i => seatOk c l s i) = true := by
    rw [List.all_eq_true]; exact fun j hj => h j (by simpa using hj)
  rw [rightB, this, decide_eq_true h0]; rfl
noncomputable abbrev E72 : Env := { P := Try.prog, fn := tbl [(48, .pure sitsS)], own := [], key := 7200, nt := 33 }
theorem b72 : PureBody E72 [] Try.f72 rightS := by
  refine pb ?_
  rintro ⟨c, l, s⟩ ⟨hc, hl, hs⟩
  simp only at hc hl hs
  by_cases h0 : s.length = l.length
  case neg =>
    have h0' : ((s.length : Int) = l.length) = False := eq_false (by omega)
    have hz := right_no (c := c) h0
    simp -dsimp [Try.f72, E72, Ca.row]
    repeat' (first | omega | (simp -dsimp [E72, ri, cellp, ints, Ca.row, h0', hz]) | (refine Also.intro ?_ fun _ => ?_) | (refine Hold.intro fun _ => ?_) | (refine And.intro ?_ ?_))
  have h0' : ((s.length : Int) = l.length) = True := eq_true (by omega)
  simp -dsimp [Try.f72, E72, Ca.row]
  repeat' (first | omega | (simp -dsimp [E72, ri, cellp, ints, Ca.row, h0']) | (refine Also.intro ?_ fun _ => ?_) | (refine Hold.intro fun _ => ?_) | (refine And.intro ?_ ?_))
  refine awp_loop [17, 18, 19, 20, 7, 8, 21, 22, 23, 24, 25, 26, 27, 28, 29, 30, 31, 6, 32, 16] (fun k : { k : Nat // k ≤ s.length ∧ ∀ j, j < k → seatOk c l s j = true } => [(16, (true, .int .i64 k.1))]) (fun _ => hps [(7203, { base := 0, blks := [{ z := 6, els := [c.row], ty := 49 }] })] noH) (fun k => s.length - k.1) ⟨0, by omega, fun _ h => by omega⟩ ?_ ?_ ?_
  · simp [okAll, okv]
  · exact (by (try simp -dsimp only [hpush_noH, hpush_hps, hps_over]); refine hle_hps ?_; simp -dsimp [allK, Ca.row]; repeat' (first | (refine And.intro ?_ ?_) | (refine sLe.same ?_ ?_ <;> (simp; done)) | (refine sLe.clear ?_ ?_ <;> (first | (simp; done) | (simp; omega))) | (refine sLe.drop 1 ?_ ?_ ?_ <;> (simp; done))))
  rintro ⟨k, hk, hall⟩
  dsimp only
  by_cases hk1 : k < s.length
  · have hki : (k : Int) < s.length := by omega
    have hkl : k < l.length := by omega
    have hkli : (k : Int) < l.length := by omega
    have wk : IntKind.wrap .i64 ((k : Int) + 1) = (k + 1 : Nat) := wrap_id (by omega) (by omega)
    obtain ⟨x, hx⟩ : ∃ x, s[k]? = some x := ⟨_, List.getElem?_eq_getElem hk1⟩
    have hx' : s[k] = x := (List.getElem?_eq_some_iff.1 hx).2
    obtain ⟨g, hg⟩ : ∃ g, l[k]? = some g := ⟨_, List.getElem?_eq_getElem hkl⟩
    have hg' : l[k] = g := (List.getElem?_eq_some_iff.1 hg).2
    have hok : seatOk c l s k = sitsB c g (s.take k) x := by
      rw [seatOk, show guAt l k = g by simp [guAt, List.getD, hg], show s.getD k 0 = x by simp [List.getD, hx]]
    have hmt : List.take k (s.map ri) = (s.take k).map ri := by rw [List.map_take]
    have hlk : (s.take k).length ≤ 1000000 := by simp; omega
    have hkn : k ≤ s.length := by omega
    generalize s.take k = sk at *
    have hSP : SiP (c, g, sk, x) := ⟨hc, hlk⟩
    cases hb : sitsB c g sk x
    · have hz := right_bad hkl (by rw [hok, hb])
      simp -dsimp [hki]
      repeat' (first | omega | (simp -dsimp [E72, ri, cellp, ints, hki, hk1, hkli, hkl, hkn, hx, hx', hg, hg', hmt, wk, siE_dec, nf2_sl, hSP, hb, hz, Gu.row, Ca.row]) | (refine Also.intro ?_ fun _ => ?_) | (refine Hold.intro fun _ => ?_) | (refine And.intro ?_ ?_))
    · simp -dsimp [hki]
      repeat' (first | omega | (simp -dsimp [E72, ri, cellp, ints, hki, hk1, hkli, hkl, hkn, hx, hx', hg, hg', hmt, wk, siE_dec, nf2_sl, hSP, hb, Gu.row, Ca.row]) | (refine Also.intro ?_ fun _ => ?_) | (refine Hold.intro fun _ => ?_) | (refine And.intro ?_ ?_))
      refine ⟨k + 1, tle_chain rfl ?_, HLe.refl _, ⟨by omega, fun j hj => ?_⟩, by omega⟩
      · simp [okAll, okv]
      · by_cases hjk : j = k
        · subst hjk; rw [hok, hb]
        · exact hall j (by omega)
  · have hkn : ¬ (k : Int) < s.length := by omega
    have hz := right_ok (c := c) h0 fun j hj => hall j (by omega)
    simp -dsimp [hkn]
    repeat' (first | omega | (simp -dsimp [E72, ri, cellp, ints, hkn, hz]) | (refine Also.intro ?_ fun _ => ?_) | (refine Hold.intro fun _ => ?_) | (refine And.intro ?_ ?_))
theorem ok72 : FnOK Try.prog 72 (.pure rightS) := pure_fn (E := E72) rfl (.cons ok48 .nil) (ok := []) (fn := Try.f72) (by kernel_rfl) (by kernel_rfl) (by kernel_rfl) (by kernel_rfl) rfl (fun _ _ => by simp) b72

/-! a cabin, guests, fuel and a seating -/
@[simp] def pcE (d : Ca × List Gu × List Int × Sp) : List V := [.agg d.1.row, .sl 4 (d.2.1.map Gu.row), .sl 1 (d.2.2.1.map ri), .agg d.2.2.2.row]
theorem pcE_inj (a b : Ca × List Gu × List Int × Sp) (h : pcE a = pcE b) : a = b := by
  obtain ⟨a1, a2, a3, a4⟩ := a; obtain ⟨b1, b2, b3, b4⟩ := b
  simp only [pcE, List.cons.injEq, V.sl.injEq, V.agg.injEq, true_and, and_true] at h
  rw [Ca.row_inj _ _ h.1, mapRow_inj Gu.row_inj h.2.1, map_ri_inj h.2.2.1, Sp.row_inj _ _ h.2.2.2]
theorem pcE_dec (c : Ca) (l : List Gu) (s : List Int) (f : Sp) : decC pcE [.agg [.int .i64 c.emp, .int .i64 c.arm, .sl 2 (c.st.map Se.row), .int .i64 c.farm, .int .i64 c.low, .int .i64 c.high], .sl 4 (l.map Gu.row), .sl 1 (s.map ri), .agg [.int .i64 f.lo, .int .i64 f.hi]] = (c, l, s, f) := decC_eq pcE_inj (c, l, s, f)
structure PcP (d : Ca × List Gu × List Int × Sp) : Prop where
  c : d.1.st.length ≤ 900000
  l : d.2.1.length ≤ 1000000
  s : d.2.2.1.length ≤ 1000000
def seaE (c : Ca) (l : List Gu) (s : List Int) (f : Sp) : Int := if lodE c l f = 0 then (if rightB c l s = true then 0 else 1) else lodE c l f
noncomputable abbrev seaS : PSpec := mkP pcE PcP fun d => .int .i64 (seaE d.1 d.2.1 d.2.2.1 d.2.2.2)
noncomputable abbrev E50 : Env := { P := Try.prog, fn := tbl [(45, .pure lodS), (72, .pure rightS)], own := [], key := 5000, nt := 22 }
theorem b50 : PureBody E50 [] Try.f50 seaS := by
  refine pb ?_
  rintro ⟨c, l, s, f⟩ ⟨hc, hl, hs⟩
  simp only at hc hl hs
  have hL : LoP (c, l, f) := ⟨hc, hl⟩
  have hR : RtP (c, l, s) := ⟨by simp only; omega, hl, hs⟩
  have hK : seaE c l s f = if lodE c l f = 0 then (if rightB c l s = true then 0 else 1) else lodE c l f := rfl
  generalize h1 : lodE c l f = e at hK
  by_cases he : e = 0
  · subst he
    rw [if_pos rfl] at hK
    cases h2 : rightB c l s <;> rw [h2] at hK
    · simp -dsimp [Try.f50, E50, Ca.row, Sp.row]
      repeat' (first | omega | (simp -dsimp [E50, ri, cellp, ints, Ca.row, Sp.row, lodE3_dec, rtE_dec, hL, hR, h1, h2, hK]) | (refine Also.intro ?_ fun _ => ?_) | (refine Hold.intro fun _ => ?_) | (refine And.intro ?_ ?_))
    · simp -dsimp [Try.f50, E50, Ca.row, Sp.row]
      repeat' (first | omega | (simp -dsimp [E50, ri, cellp, ints, Ca.row, Sp.row, lodE3_dec, rtE_dec, hL, hR, h1, h2, hK]) | (refine Also.intro ?_ fun _ => ?_) | (refine Hold.intro fun _ => ?_) | (refine And.intro ?_ ?_))
  · rw [if_neg he] at hK
    have he' : (e = 0) = False := eq_false he
    simp -dsimp [Try.f50, E50, Ca.row, Sp.row]
    repeat' (first | omega | (simp -dsimp [E50, ri, cellp, ints, Ca.row, Sp.row, lodE3_dec, hL, h1, he', hK]) | (refine Also.intro ?_ fun _ => ?_) | (refine Hold.intro fun _ => ?_) | (refine And.intro ?_ ?_))
theorem ok50 : FnOK Try.prog 50 (.pure seaS) := pure_fn (E := E50) rfl (.cons ok45 (.cons ok72 .nil)) (ok := []) (fn := Try.f50) (by kernel_rfl) (by kernel_rfl) (by kernel_rfl) (by kernel_rfl) rfl (fun _ _ => by simp) b50
end Go.Sx
end
section
/- Crew: the weight and the moment with the least and with the most fuel. No conditions. -/
set_option linter.unusedSimpArgs false
set_option linter.unusedSectionVars false
set_option maxRecDepth 100000
set_option maxHeartbeats 2000000
namespace Go.Sx
open Go.Proofs
attribute [local irreducible] HLe

/-! a weight with its moment -/
/-- Numbers far from the ends. -/
def Far0 (n : Int) : Prop := -1000000000000 ≤ n ∧ n ≤ 1000000000000
def wmB (x y : Int) (ty : TypeId) : Blk := { z := 2, els := [[.int .i64 x, .int .i64 y]], ty := ty }
abbrev AdD := Nat × Nat × Int × Int × Int × Int
def adE (d : AdD) : List V := [.bptr d.1 d.2.1 1 0 0, .int .i64 d.2.2.1, .int .i64 d.2.2.2.1]
def adH (d : AdD) (h : Hp) : Prop := hget h d.1 d.2.1 = some (wmB d.2.2.2.2.1 d.2.2.2.2.2 111)
theorem ad_inj (a b : AdD) (h : Hp) (e : adE a = adE b) (h1 : adH a h) (h2 : adH b h) : a = b := by
  obtain ⟨a1, a2, a3, a4, a5, a6⟩ := a; obtain ⟨b1, b2, b3, b4, b5, b6⟩ := b
  simp only [adE, List.cons.injEq, V.bptr.injEq, V.int.injEq, true_and, and_true] at e
  obtain ⟨⟨rfl, rfl⟩, rfl, rfl⟩ := e
  rw [adH] at h1 h2
  rw [h1] at h2
  simp only [wmB, Option.some.injEq, Blk.mk.injEq, List.cons.injEq, V.int.injEq, true_and, and_true] at h2
  rw [h2.1, h2.2]
noncomputable abbrev addS : HSpec := mkH adE adH (fun d => Far0 d.2.2.1 ∧ Far0 (d.2.2.1 * d.2.2.2.1) ∧ Far0 d.2.2.2.2.1 ∧ Far0 d.2.2.2.2.2) (fun _ => .tup []) (fun d h => hset h d.1 d.2.1 (wmB (d.2.2.2.2.1 + d.2.2.1) (d.2.2.2.2.2 + d.2.2.1 * d.2.2.2.1) 111))
theorem addS_go {h : Hp} {s i : Nat} {w a x y : Int} (hb : hget h s i = some (wmB x y 111)) : addS.go [.bptr s i 1 0 0, .int .i64 w, .int .i64 a] h = ⟨Far0 w ∧ Far0 (w * a) ∧ Far0 x ∧ Far0 y, .tup [], hset h s i (wmB (x + w) (y + w * a) 111)⟩ := mkH_at ad_inj (d := (s, i, w, a, x, y)) hb
theorem addS_inv {args : List V} {h : Hp} (hc : (addS.go args h).c) : ∃ s i w a x y, args = [.bptr s i 1 0 0, .int .i64 w, .int .i64 a] ∧ hget h s i = some (wmB x y 111) ∧ (Far0 w ∧ Far0 (w * a) ∧ Far0 x ∧ Far0 y) ∧ addS.go args h = ⟨Far0 w ∧ Far0 (w * a) ∧ Far0 x ∧ Far0 y, .tup [], hset h s i (wmB (x + w) (y + w * a) 111)⟩ := by
  obtain ⟨⟨s, i, w, a, x, y⟩, rfl, h1, h2, h3⟩ := mkH_inv hc
  exact ⟨s, i, w, a, x, y, rfl, h1, h2, h3⟩
noncomputable abbrev E91 : Env := { P := Try.prog, fn := tbl [], own := [], key := 9100, nt := 24 }
theorem b91 : HeapBody E91 [] Try.f91 addS := by
  intro args h hc
  obtain ⟨s, i, w, a, x, y, rfl, hb, ⟨⟨h1, h2⟩, ⟨h3, h4⟩, ⟨h5, h6⟩, ⟨h7, h8⟩⟩, hgo⟩ := addS_inv hc
  rw [hgo]
  clear hgo hc
  have w1 : IntKind.wrap .i64 (x + w) = x + w := wrap_id (by omega) (by omega)
  have w2 : IntKind.wrap .i64 (w * a) = w * a := wrap_id (by omega) (by omega)
  have w3 : IntKind.wrap .i64 (y + w * a) = y + w * a := wrap_id (by omega) (by omega)
  have hs := fun B => hget_hset_eq (B := B) hb
  simp -dsimp [Try.f91, E91, wmB] at hb hs ⊢
  repeat' (first | omega | (simp -dsimp [E91, ri, cellp, ints, hb, hs, hset_hset, w1, w2, w3, hle_refl]) | (refine Also.intro ?_ fun _ => ?_) | (refine Hold.intro fun _ => ?_) | (refine And.intro ?_ ?_))
theorem ok91 : FnOK Try.prog 91 (.heap addS) := heap_fn (E := E91) rfl LOK.nil (ok := []) (fn := Try.f91) (by kernel_rfl) (by kernel_rfl) (by kernel_rfl) (by kernel_rfl) rfl (fun args h hc => by obtain ⟨s, i, w, a, x, y, rfl, _⟩ := addS_inv hc; simp) b91

theorem add_1 (L : List (Nat × Site)) (H : Hp) (b : Nat) (x y w a : Int) : addS.go [.bptr 9008 b 1 0 0, .int .i64 w, .int .i64 a] (hps ((9008, { base := b, blks := [{ z := 2, els := [[.int .i64 x, .int .i64 y]], ty := 111 }] }) :: L) H) = ⟨Far0 w ∧ Far0 (w * a) ∧ Far0 x ∧ Far0 y, .tup [], hps ((9008, { base := b, blks := [{ z := 2, els := [[.int .i64 (x + w), .int .i64 (y + w * a)]], ty := 111 }] }) :: L) H⟩ := by
  rw [addS_go (x := x) (y := y) (by simp [wmB])]
  congr 1
  rw [hset_hps, hps_over]
  simp [wmB]
theorem add_2 (S : Site) (L : List (Nat × Site)) (H : Hp) (b : Nat) (x y w a : Int) : addS.go [.bptr 9008 b 1 0 0, .int .i64 w, .int .i64 a] (hps ((9010, S) :: (9008, { base := b, blks := [{ z := 2, els := [[.int .i64 x, .int .i64 y]], ty := 111 }] }) :: L) H) = ⟨Far0 w ∧ Far0 (w * a) ∧ Far0 x ∧ Far0 y, .tup [], hps ((9010, S) :: (9008, { base := b, blks := [{ z := 2, els := [[.int .i64 (x + w), .int .i64 (y + w * a)]], ty := 111 }] }) :: L) H⟩ := by
  rw [addS_go (x := x) (y := y) (by simp [wmB])]
  congr 1
  rw [hset_hps]
  funext k
  by_cases h1 : k = 9008
  · simp [h1, wmB]
  · simp [h1]
/-! the two ends -/
@[simp] def enE (d : Ca × List Gu × List Int × Sp) : List V := [.ip 2 [d.2.2.2.row] 0 0, .ip 6 [d.1.row] 0 0, .ip 1 [[.sl 4 (d.2.1.map Gu.row)]] 0 0, .ip 1 [[.sl 1 (d.2.2.1.map ri)]] 0 0]
theorem enE_inj (a b : Ca × List Gu × List Int × Sp) (h : enE a = enE b) : a = b := by
  obtain ⟨a1, a2, a3, a4⟩ := a; obtain ⟨b1, b2, b3, b4⟩ := b
  simp only [enE, List.cons.injEq, V.ip.injEq, V.sl.injEq, true_and, and_true] at h
  rw [Ca.row_inj _ _ h.2.1, mapRow_inj Gu.row_inj h.2.2.1, map_ri_inj h.2.2.2, Sp.row_inj _ _ h.1]
/-- Cabins, guests, fuel and a seating that are right. -/
structure PFit (d : Ca × List Gu × List Int × Sp) : Prop where
  f : LFit d.1 d.2.1 d.2.2.2
  s : rightB d.1 d.2.1 d.2.2.1 = true
noncomputable abbrev endsS : PSpec := mkP pcE (fun _ => True) fun d => .fn 90 (enE d)
noncomputable abbrev E60 : Env := { P := Try.prog, fn := tbl [], own := [], key := 6000, nt := 10, frz := [(1, [4, 50004, 5, 50005, 6, 50006, 7, 50007])] }
theorem b60 : PureBody E60 [] Try.f60 endsS := by
  refine pb ?_
  rintro ⟨c, l, s, f⟩ _
  simp -dsimp [Try.f60, E60, Ca.row, Sp.row]
  repeat' (first | omega | (simp -dsimp [E60, ri, cellp, ints, Ca.row, Sp.row]) | (refine Also.intro ?_ fun _ => ?_) | (refine Hold.intro fun _ => ?_) | (refine And.intro ?_ ?_))
theorem ok60 : FnOK Try.prog 60 (.pure endsS) := pure_fn (E := E60) rfl LOK.nil (ok := []) (fn := Try.f60) (by kernel_rfl) (by kernel_rfl) (by kernel_rfl) (by kernel_rfl) rfl (fun _ _ => by simp) b60
/-- What is yielded with so much fuel. -/
def wmV (c : Ca) (l : List Gu) (s : List Int) (x : Int) : List V := [.agg [.int .i64 (wgt c l x), .int .i64 (mom c l s x)]]
def endL (d : Ca × List Gu × List Int × Sp) : List (List V) := [wmV d.1 d.2.1 d.2.2.1 d.2.2.2.lo, wmV d.1 d.2.1 d.2.2.1 d.2.2.2.hi]
open Classical in
noncomputable def endDec (caps : List V) (_ : Hp) : Prop × List (List V) := if x : ∃ d, caps = enE d then (PFit x.choose, endL x.choose) else (False, [])
theorem endDec_at (d : Ca × List Gu × List Int × Sp) (h : Hp) : endDec (enE d) h = (PFit d, endL d) := by
  have hx : ∃ d', enE d = enE d' := ⟨d, rfl⟩
  have e : hx.choose = d := (enE_inj _ _ hx.choose_spec).symm
  simp only [endDec, dif_pos hx, e]
theorem endDec_inv {caps : List V} {h : Hp} (hc : (endDec caps h).1) : ∃ d, caps = enE d ∧ PFit d ∧ (endDec caps h).2 = endL d := by
  simp only [endDec] at hc ⊢
  by_cases hx : ∃ d, caps = enE d
  · rw [dif_pos hx] at hc ⊢
    exact ⟨_, hx.choose_spec, hc, rfl⟩
  · rw [dif_neg hx] at hc; exact hc.elim
noncomputable def endI : Nat → HSpec → HSpec := itS [9008, 9010] [] endDec
theorem endI_inv {l : Nat} {Y : HSpec} {args : List V} {h : Hp} (hc : ((endI l Y).go args h).c) : ∃ d, args = .yld l :: enE d ∧ Loc Y [9008, 9010] [] ∧ (∀ k ∈ [9008, 9010], h k = { base := (h k).base, blks := [] }) ∧ PFit d ∧ (feed Y (endL d) h).1 ∧
    ((endI l Y).go args h).v = .tup [] ∧ ((endI l Y).go args h).h = hps ([9008, 9010].map fun k => (k, { base := (h k).base + 1000000, blks := [] })) (feed Y (endL d) h).2 := by
  obtain ⟨caps, rfl, h2, h3, h4, h5, h6, h7⟩ := its_inv hc
  obtain ⟨d, rfl, k1, k2⟩ := endDec_inv h4
  rw [k2] at h5 h7
  exact ⟨d, rfl, h2, h3, k1, h5, h6, h7⟩
theorem kp90 : ∀ f S, tbl [(91, .heap addS)] f = some (.heap S) → ∀ args h, (S.go args h).c → (h YS).blks = [] → (S.go args h).h YS = h YS := by
  intro f S hf args h hc hy
  simp only [tbl_cons, tbl_nil] at hf
  split at hf
  · cases hf
    obtain ⟨s, i, w, a, x, y, _, hb, _, hgo⟩ := addS_inv hc
    rw [hgo]
    have : s ≠ YS := by
      rintro rfl
      unfold hget at hb
      rw [hy] at hb
      split at hb <;> simp at hb
    simp only [hset, Ne.symm this, if_false]
  · cases hf
/-- Between two yields. -/
structure EnO (Y : HSpec) (FH : Hp) (xs : List (List V)) (n b1 b2 : Nat) where
  i : Nat
  H : Hp
  b : Nat
  c : Nat
  hi : i ≤ 2
  hf : (feed Y (xs.drop i) H).1 ∧ (feed Y (xs.drop i) H).2 = FH
  hb : b ≤ b1 + i ∧ c ≤ b2 + i * n
theorem seat_of {c : Ca} {l : List Gu} {s : List Int} (h : rightB c l s = true) : s.length = l.length ∧ ∀ k, k < l.length → ∃ q : Nat, s[k]? = some (q : Int) ∧ q < c.st.length := by
  simp only [rightB, Bool.and_eq_true, decide_eq_true_eq, List.all_eq_true, List.mem_range] at h
  refine ⟨h.1, fun k hk => ?_⟩
  have h2 := h.2 k hk
  simp only [seatOk, sitsB, Bool.and_eq_true, decide_eq_true_eq] at h2
  have hks : k < s.length := by omega
  have e : s.getD k 0 = s[k] := by simp [List.getD, hks]
  rw [e] at h2
  refine ⟨s[k].toNat, ?_, by omega⟩
  rw [List.getElem?_eq_getElem hks]
  congr 1; omega
noncomputable abbrev E90 : Env := { P := Try.prog, fn := tbl [(91, .heap addS)], own := [], key := 9000, nt := 53 }
theorem b90 : IterBody E90 [] Try.f90 endI := by
  intro l Y args h hc hyb hyf
  obtain ⟨⟨c, g, s, f⟩, rfl, hloc, hfr, ⟨hL, hR⟩, hfd, hv, hh⟩ := endI_inv hc
  simp only at hL hR
  rw [hv, hh]
  clear hv hh hc
  have f1 := hfr 9008 (by simp)
  have f2 := hfr 9010 (by simp)
  obtain ⟨FH, hFH⟩ : ∃ FH, (feed Y (endL (c, g, s, f)) h).2 = FH := ⟨_, rfl⟩
  rw [hFH]
  simp only [List.map_cons, List.map_nil]
  generalize hb1 : (h 9008).base = b1 at *
  generalize hb2 : (h 9010).base = b2 at *
  have hself : hps [(9008, { base := b1, blks := [] }), (9010, { base := b2, blks := [] })] h = h := hps_self (by
    intro k hk
    simp at hk
    rcases hk with rfl | rfl
    · rw [f1]; rfl
    · rw [f2]; rfl)
  rw [← hself]
  obtain ⟨hsl, hsq⟩ := seat_of hR
  have hn8 : g.length ≤ 8 := by have := hL.n; have := hL.cf.n; omega
  have hemp := hL.cf.emp
  have harm := hL.cf.arm
  have hfarm := hL.cf.farm
  have hff := hL.ff
  have m1 := mul_bd (a := c.emp) (A := 100000) (by omega) harm
  simp -dsimp [Try.f90, E90, Ca.row, Sp.row]
  repeat' (first | omega | (simp -dsimp [E90, ri, cellp, ints, Ca.row, Sp.row]) | (refine Also.intro ?_ fun _ => ?_) | (refine Hold.intro fun _ => ?_) | (refine And.intro ?_ ?_))
  refine awp_loop [17, 18, 7, 8, 19, 20, 21, 22, 23, 24, 25, 26, 27, 28, 29, 30, 10, 9, 31, 32, 33, 34, 35, 36, 37, 38, 39, 40, 41, 42, 43, 44, 45, 46, 47, 48, 49, 50, 51, 52, 16] (fun q : EnO Y FH (endL (c, g, s, f)) g.length b1 b2 => [(16, (true, .int .i64 (q.i : Nat)))])
    (fun q => hps [(9008, { base := q.b, blks := [] }), (9010, { base := q.c, blks := [] })] q.H) (fun q => 2 - q.i) { i := 0, H := h, b := b1, c := b2, hi := by omega, hf := ⟨hfd, hFH⟩, hb := by omega } ?_ ?_ ?_
  · simp [okAll, okv]
  · exact (by (try simp -dsimp only [hpush_noH, hpush_hps, hps_over]); refine hle_hpsb ?_; simp -dsimp [allK, ]; repeat' (first | (refine And.intro ?_ ?_) | (refine sLe.same ?_ ?_ <;> (simp; done)) | (refine sLe.clear ?_ ?_ <;> (first | (simp; done) | (simp; omega))) | (refine sLe.drop 1 ?_ ?_ ?_ <;> (simp; done))))
  clear hfd hFH hself f1 f2 hfr
  rintro ⟨i, H, b, e, hi, ⟨hfd, hFH⟩, hbb, hee⟩
  simp only
  have hdr : i = 2 ∨ i = 0 ∨ i = 1 := by omega
  rcases hdr with rfl | hdr
  · have he : feed Y ((endL (c, g, s, f)).drop 2) H = (True, H) := rfl
    rw [he] at hFH
    subst hFH
    simp -dsimp []
    repeat' (first | omega | (simp -dsimp [E90, ri, cellp, ints, *]) | (refine Also.intro ?_ fun _ => ?_) | (refine Hold.intro fun _ => ?_) | (refine And.intro ?_ ?_))
    exact (by (try simp -dsimp only [hpush_noH, hpush_hps, hps_over]); refine hle_hpsb ?_; simp -dsimp [allK, ]; repeat' (first | (refine And.intro ?_ ?_) | (refine sLe.same ?_ ?_ <;> (simp; done)) | (refine sLe.clear ?_ ?_ <;> (first | (simp; done) | (simp; omega))) | (refine sLe.drop 1 ?_ ?_ ?_ <;> (simp; done))))
  rcases hdr with rfl | rfl
  · have hdrop : (endL (c, g, s, f)).drop 0 = wmV c g s f.lo :: (endL (c, g, s, f)).drop 1 := rfl
    obtain ⟨x, hx⟩ : ∃ x, f.lo = x := ⟨_, rfl⟩
    have hxb : 0 ≤ x ∧ x ≤ 100000 := by omega
    rw [hx] at hdrop
    clear hff
    rw [hdrop] at hfd hFH
    obtain ⟨hc, bb, hv, ht, hf⟩ := feed_step hfd
    have m3 := mul_bd (a := x) (A := 100000) (by omega) hfarm
    simp -dsimp []
    repeat' (first | omega | (simp -dsimp [E90, ri, cellp, ints, Ca.row, Sp.row, hx, add_1, Far0]) | (refine Also.intro ?_ fun _ => ?_) | (refine Hold.intro fun _ => ?_) | (refine And.intro ?_ ?_))
    refine awp_loop [27, 28, 29, 30, 10, 9, 31, 32, 33, 34, 35, 36, 37, 38, 39, 40, 41, 42, 43, 26] (fun k : { k : Nat // k ≤ g.length } => [(26, (true, .int .i64 k.1))])
      (fun k => hps [(9008, { base := b, blks := [{ z := 2, els := [[.int .i64 (c.emp + wTo g k.1), .int .i64 (c.emp * c.arm + mTo c g s k.1)]], ty := 111 }] }), (9010, { base := e + k.1, blks := [] })] H) (fun k => g.length - k.1) ⟨0, by omega⟩ ?_ ?_ ?_
    · simp [okAll, okv]
    · exact (by (try simp -dsimp only [hpush_noH, hpush_hps, hps_over]); refine hle_hpsb ?_; simp -dsimp [allK, wTo, mTo]; repeat' (first | (refine And.intro ?_ ?_) | (refine sLe.same ?_ ?_ <;> (simp; done)) | (refine sLe.clear ?_ ?_ <;> (first | (simp; done) | (simp; omega))) | (refine sLe.drop 1 ?_ ?_ ?_ <;> (simp; done))))
    rintro ⟨k, hk⟩
    dsimp only
    have wb := wTo_bd hL.gf k hk
    have mb := mTo_bd hL.cf hL.gf s k hk
    by_cases hk1 : k < g.length
    · have hki : (k : Int) < g.length := by omega
      have wk : IntKind.wrap .i64 ((k : Int) + 1) = (k + 1 : Nat) := wrap_id (by omega) (by omega)
      obtain ⟨u, hu⟩ : ∃ u, g[k]? = some u := ⟨_, List.getElem?_eq_getElem hk1⟩
      have hu' : g[k] = u := (List.getElem?_eq_some_iff.1 hu).2
      have hug : guAt g k = u := by simp [guAt, List.getD, hu]
      have hub := guAt_bd hL.gf hk1
      rw [hug] at hub
      obtain ⟨q, hq, hqn⟩ := hsq k hk1
      have hks : k < s.length := by omega
      have hksi : (k : Int) < s.length := by omega
      have hq' : s[k] = q := (List.getElem?_eq_some_iff.1 hq).2
      obtain ⟨v, hv0⟩ : ∃ v, c.st[q]? = some v := ⟨_, List.getElem?_eq_getElem hqn⟩
      have hv0' : c.st[q] = v := (List.getElem?_eq_some_iff.1 hv0).2
      have hqi : (q : Int) < c.st.length := by omega
      have harm2 : armAt c s k = v.arm := by simp [armAt, List.getD, hq, hv0]
      have hab := armAt_bd hL.cf s k
      rw [harm2] at hab
      have m4 := mul_bd (a := u.w) (A := 500) (by omega) hab
      have hwt : wTo g (k + 1) = wTo g k + u.w := by rw [wTo, hug]
      have hmt : mTo c g s (k + 1) = mTo c g s k + u.w * v.arm := by rw [mTo, hug, harm2]
      simp -dsimp [hki]
      repeat' (first | omega | (simp -dsimp [E90, ri, cellp, ints, hki, hk1, hks, hksi, hqi, hqn, hu, hu', hq, hq', hv0, hv0', wk, add_2, Far0, Ca.row, Sp.row, Gu.row, Se.row]) | (refine Also.intro ?_ fun _ => ?_) | (refine Hold.intro fun _ => ?_) | (refine And.intro ?_ ?_))
      refine ⟨k + 1, tle_chain rfl ?_, ?_, by omega, by omega⟩
      · simp [okAll, okv]
      · exact (by (try simp -dsimp only [hpush_noH, hpush_hps, hps_over]); refine hle_hpsb ?_; simp -dsimp [allK, hwt, hmt, Int.add_assoc]; repeat' (first | (refine And.intro ?_ ?_) | (refine sLe.same ?_ ?_ <;> (simp; done)) | (refine sLe.clear ?_ ?_ <;> (first | (simp; done) | (simp; omega))) | (refine sLe.drop 1 ?_ ?_ ?_ <;> (simp; done))))
    · have hkn : ¬ (k : Int) < g.length := by omega
      have hke : k = g.length := by omega
      subst hke
      obtain ⟨H', hH'⟩ : ∃ H', (Y.go (wmV c g s x) H).h = H' := ⟨_, rfl⟩
      rw [hH'] at hf ht
      have hgo : ∀ S1 S2, Y.go (wmV c g s x) (hps [(9008, S1), (9010, S2)] H) = ⟨True, .bool bb, hps [(9008, S1), (9010, S2)] H'⟩ := fun S1 S2 => by
        have := hloc.go hc hv [(9008, S1), (9010, S2)]
        rw [hH'] at this; exact this
      rw [wmV, wgt, mom] at hgo
      cases bb with
      | false =>
        rw [hf rfl] at hFH
        subst hFH
        simp -dsimp [hkn]
        repeat' (first | omega | (simp -dsimp [E90, ri, cellp, ints, hkn, add_1, Far0, hx, hgo, Ca.row, Sp.row]) | (refine Also.intro ?_ fun _ => ?_) | (refine Hold.intro fun _ => ?_) | (refine And.intro ?_ ?_))
        exact (by (try simp -dsimp only [hpush_noH, hpush_hps, hps_over]); refine hle_hpsb ?_; simp -dsimp [allK, ]; repeat' (first | (refine And.intro ?_ ?_) | (refine sLe.same ?_ ?_ <;> (simp; done)) | (refine sLe.clear ?_ ?_ <;> (first | (simp; done) | (simp; omega))) | (refine sLe.drop 1 ?_ ?_ ?_ <;> (simp; done))))
      | true =>
        obtain ⟨hf1, hf2⟩ := ht rfl
        rw [hf2] at hFH
        have w1 : IntKind.wrap .i64 1 = 1 := wrap_id (by omega) (by omega)
        simp -dsimp [hkn]
        repeat' (first | omega | (simp -dsimp [E90, ri, cellp, ints, hkn, add_1, Far0, hx, hgo, w1, Ca.row, Sp.row]) | (refine Also.intro ?_ fun _ => ?_) | (refine Hold.intro fun _ => ?_) | (refine And.intro ?_ ?_))
        refine ⟨{ i := 1, H := H', b := b + 1, c := e + g.length, hi := by omega, hf := ⟨hf1, hFH⟩, hb := by omega }, tle_kept (kept_upds rfl (kept_forget rfl (kept_upds rfl kept_base))) ?_, (by (try simp -dsimp only [hpush_noH, hpush_hps, hps_over]); refine hle_hpsb ?_; simp -dsimp [allK, ]; repeat' (first | (refine And.intro ?_ ?_) | (refine sLe.same ?_ ?_ <;> (simp; done)) | (refine sLe.clear ?_ ?_ <;> (first | (simp; done) | (simp; omega))) | (refine sLe.drop 1 ?_ ?_ ?_ <;> (simp; done)))), by first | omega | (simp only; omega) | simp⟩
        simp [okAll, okv, w1]
  · have hdrop : (endL (c, g, s, f)).drop 1 = wmV c g s f.hi :: (endL (c, g, s, f)).drop 2 := rfl
    obtain ⟨x, hx⟩ : ∃ x, f.hi = x := ⟨_, rfl⟩
    have hxb : 0 ≤ x ∧ x ≤ 100000 := by omega
    rw [hx] at hdrop
    clear hff
    rw [hdrop] at hfd hFH
    obtain ⟨hc, bb, hv, ht, hf⟩ := feed_step hfd
    have m3 := mul_bd (a := x) (A := 100000) (by omega) hfarm
    simp -dsimp []
    repeat' (first | omega | (simp -dsimp [E90, ri, cellp, ints, Ca.row, Sp.row, hx, add_1, Far0]) | (refine Also.intro ?_ fun _ => ?_) | (refine Hold.intro fun _ => ?_) | (refine And.intro ?_ ?_))
    refine awp_loop [27, 28, 29, 30, 10, 9, 31, 32, 33, 34, 35, 36, 37, 38, 39, 40, 41, 42, 43, 26] (fun k : { k : Nat // k ≤ g.length } => [(26, (true, .int .i64 k.1))])
      (fun k => hps [(9008, { base := b, blks := [{ z := 2, els := [[.int .i64 (c.emp + wTo g k.1), .int .i64 (c.emp * c.arm + mTo c g s k.1)]], ty := 111 }] }), (9010, { base := e + k.1, blks := [] })] H) (fun k => g.length - k.1) ⟨0, by omega⟩ ?_ ?_ ?_
    · simp [okAll, okv]
    · exact (by (try simp -dsimp only [hpush_noH, hpush_hps, hps_over]); refine hle_hpsb ?_; simp -dsimp [allK, wTo, mTo]; repeat' (first | (refine And.intro ?_ ?_) | (refine sLe.same ?_ ?_ <;> (simp; done)) | (refine sLe.clear ?_ ?_ <;> (first | (simp; done) | (simp; omega))) | (refine sLe.drop 1 ?_ ?_ ?_ <;> (simp; done))))
    rintro ⟨k, hk⟩
    dsimp only
    have wb := wTo_bd hL.gf k hk
    have mb := mTo_bd hL.cf hL.gf s k hk
    by_cases hk1 : k < g.length
    · have hki : (k : Int) < g.length := by omega
      have wk : IntKind.wrap .i64 ((k : Int) + 1) = (k + 1 : Nat) := wrap_id (by omega) (by omega)
      obtain ⟨u, hu⟩ : ∃ u, g[k]? = some u := ⟨_, List.getElem?_eq_getElem hk1⟩
      have hu' : g[k] = u := (List.getElem?_eq_some_iff.1 hu).2
      have hug : guAt g k = u := by simp [guAt, List.getD, hu]
      have hub := guAt_bd hL.gf hk1
      rw [hug] at hub
      obtain ⟨q, hq, hqn⟩ := hsq k hk1
      have hks : k < s.length := by omega
      have hksi : (k : Int) < s.length := by omega
      have hq' : s[k] = q := (List.getElem?_eq_some_iff.1 hq).2
      obtain ⟨v, hv0⟩ : ∃ v, c.st[q]? = some v := ⟨_, List.getElem?_eq_getElem hqn⟩
      have hv0' : c.st[q] = v := (List.getElem?_eq_some_iff.1 hv0).2
      have hqi : (q : Int) < c.st.length := by omega
      have harm2 : armAt c s k = v.arm := by simp [armAt, List.getD, hq, hv0]
      have hab := armAt_bd hL.cf s k
      rw [harm2] at hab
      have m4 := mul_bd (a := u.w) (A := 500) (by omega) hab
      have hwt : wTo g (k + 1) = wTo g k + u.w := by rw [wTo, hug]
      have hmt : mTo c g s (k + 1) = mTo c g s k + u.w * v.arm := by rw [mTo, hug, harm2]
      simp -dsimp [hki]
      repeat' (first | omega | (simp -dsimp [E90, ri, cellp, ints, hki, hk1, hks, hksi, hqi, hqn, hu, hu', hq, hq', hv0, hv0', wk, add_2, Far0, Ca.row, Sp.row, Gu.row, Se.row]) | (refine Also.intro ?_ fun _ => ?_) | (refine Hold.intro fun _ => ?_) | (refine And.intro ?_ ?_))
      refine ⟨k + 1, tle_chain rfl ?_, ?_, by omega, by omega⟩
      · simp [okAll, okv]
      · exact (by (try simp -dsimp only [hpush_noH, hpush_hps, hps_over]); refine hle_hpsb ?_; simp -dsimp [allK, hwt, hmt, Int.add_assoc]; repeat' (first | (refine And.intro ?_ ?_) | (refine sLe.same ?_ ?_ <;> (simp; done)) | (refine sLe.clear ?_ ?_ <;> (first | (simp; done) | (simp; omega))) | (refine sLe.drop 1 ?_ ?_ ?_ <;> (simp; done))))
    · have hkn : ¬ (k : Int) < g.length := by omega
      have hke : k = g.length := by omega
      subst hke
      obtain ⟨H', hH'⟩ : ∃ H', (Y.go (wmV c g s x) H).h = H' := ⟨_, rfl⟩
      rw [hH'] at hf ht
      have hgo : ∀ S1 S2, Y.go (wmV c g s x) (hps [(9008, S1), (9010, S2)] H) = ⟨True, .bool bb, hps [(9008, S1), (9010, S2)] H'⟩ := fun S1 S2 => by
        have := hloc.go hc hv [(9008, S1), (9010, S2)]
        rw [hH'] at this; exact this
      rw [wmV, wgt, mom] at hgo
      cases bb with
      | false =>
        rw [hf rfl] at hFH
        subst hFH
        simp -dsimp [hkn]
        repeat' (first | omega | (simp -dsimp [E90, ri, cellp, ints, hkn, add_1, Far0, hx, hgo, Ca.row, Sp.row]) | (refine Also.intro ?_ fun _ => ?_) | (refine Hold.intro fun _ => ?_) | (refine And.intro ?_ ?_))
        exact (by (try simp -dsimp only [hpush_noH, hpush_hps, hps_over]); refine hle_hpsb ?_; simp -dsimp [allK, ]; repeat' (first | (refine And.intro ?_ ?_) | (refine sLe.same ?_ ?_ <;> (simp; done)) | (refine sLe.clear ?_ ?_ <;> (first | (simp; done) | (simp; omega))) | (refine sLe.drop 1 ?_ ?_ ?_ <;> (simp; done))))
      | true =>
        obtain ⟨hf1, hf2⟩ := ht rfl
        rw [hf2] at hFH
        have w1 : IntKind.wrap .i64 2 = 2 := wrap_id (by omega) (by omega)
        simp -dsimp [hkn]
        repeat' (first | omega | (simp -dsimp [E90, ri, cellp, ints, hkn, add_1, Far0, hx, hgo, w1, Ca.row, Sp.row]) | (refine Also.intro ?_ fun _ => ?_) | (refine Hold.intro fun _ => ?_) | (refine And.intro ?_ ?_))
        refine ⟨{ i := 2, H := H', b := b + 1, c := e + g.length, hi := by omega, hf := ⟨hf1, hFH⟩, hb := by omega }, tle_kept (kept_upds rfl (kept_forget rfl (kept_upds rfl kept_base))) ?_, (by (try simp -dsimp only [hpush_noH, hpush_hps, hps_over]); refine hle_hpsb ?_; simp -dsimp [allK, ]; repeat' (first | (refine And.intro ?_ ?_) | (refine sLe.same ?_ ?_ <;> (simp; done)) | (refine sLe.clear ?_ ?_ <;> (first | (simp; done) | (simp; omega))) | (refine sLe.drop 1 ?_ ?_ ?_ <;> (simp; done)))), by first | omega | (simp only; omega) | simp⟩
        simp [okAll, okv, w1]
theorem ok90 : FnOK Try.prog 90 (.iter endI) := iter_fn (E := E90) rfl (.cons ok91 .nil) (ok := []) (fn := Try.f90) (by kernel_rfl) (by kernel_rfl) (by kernel_rfl) (fun _ _ => by kernel_rfl) rfl (fun l Y args h hc => by obtain ⟨_, rfl, _⟩ := endI_inv hc; simp) kp90 b90
end Go.Sx
end
section
/- Crew: whether a seating is balanced. No conditions. -/
set_option linter.unusedSimpArgs false
set_option linter.unusedSectionVars false
set_option maxRecDepth 100000
set_option maxHeartbeats 2000000
namespace Go.Sx
open Go.Proofs
attribute [local irreducible] awp
attribute [local irreducible] HLe

theorem wgt_bd {c : Ca} {l : List Gu} {f : Sp} (h : LFit c l f) {x : Int} (hx : 0 ≤ x ∧ x ≤ 100000) : 0 < wgt c l x ∧ wgt c l x ≤ 300000 := by
  have h1 := wTo_bd h.gf l.length (Nat.le_refl _)
  have h2 := h.cf.emp
  have h3 := h.n
  have h4 := h.cf.n
  unfold wgt; omega
theorem mom_bd {c : Ca} {l : List Gu} {f : Sp} (h : LFit c l f) (s : List Int) {x : Int} (hx : 0 ≤ x ∧ x ≤ 100000) : -300000000 ≤ mom c l s x ∧ mom c l s x ≤ 300000000 := by
  have h1 := mTo_bd h.cf h.gf s l.length (Nat.le_refl _)
  have h2 := h.cf.emp
  have h3 := h.n
  have h4 := h.cf.n
  have m1 := mul_bd (a := c.emp) (A := 100000) (by omega) h.cf.arm
  have m2 := mul_bd (a := x) (A := 100000) hx h.cf.farm
  unfold mom; omega
def baL (n : Nat) : List (Nat × Site) := [(4708, { base := 0, blks := [{ z := 1, els := [[.bool false]], ty := 4 }] }), (4709, { base := n, blks := [] })]
theorem baL_keys (n : Nat) : (baL n).map (·.1) = [4708, 4709] := rfl
theorem baL_inj (n n' : Nat) (h : ∀ k ∈ [4708, 4709], hps (baL n) noH k = hps (baL n') noH k) : n = n' := by
  have := congrArg Site.base (h 4709 (by simp))
  simpa [baL] using this
abbrev baP (_ : Nat) (x : List V) : Prop := ∃ w m, x = [.agg [.int .i64 w, .int .i64 m]] ∧ 0 ≤ w ∧ w ≤ 300000
def wmW (x : List V) : Int := ((x.getD 0 .top).cs.getD 0 .top).toInt
def wmM (x : List V) : Int := ((x.getD 0 .top).cs.getD 1 .top).toInt
abbrev baG (c : Ca) (_ : Nat) (x : List V) : Bool := ctB c (wmW x) (wmM x)
abbrev baN (n : Nat) (_ : List V) : Nat := n + 1
theorem bal_run (c : Ca) (l : List Gu) (s : List Int) (f : Sp) (h : LFit c l f) : (runS baP (baG c) baN 0 (endL (c, l, s, f))).1 ∧ (runS baP (baG c) baN 0 (endL (c, l, s, f))).2.1 = balB c l f s := by
  have w1 := wgt_bd h (x := f.lo) (by have := h.ff; omega)
  have w2 := wgt_bd h (x := f.hi) (by have := h.ff; omega)
  have p1 : baP 0 (wmV c l s f.lo) := ⟨_, _, rfl, by omega, by omega⟩
  have p2 : baP 1 (wmV c l s f.hi) := ⟨_, _, rfl, by omega, by omega⟩
  have g1 : baG c 0 (wmV c l s f.lo) = ctB c (wgt c l f.lo) (mom c l s f.lo) := rfl
  have g2 : baG c 1 (wmV c l s f.hi) = ctB c (wgt c l f.hi) (mom c l s f.hi) := rfl
  unfold balB endL
  rw [← g1, ← g2]
  simp only [runS]
  cases h1 : baG c 0 (wmV c l s f.lo)
  · exact ⟨p1, rfl⟩
  · cases h2 : baG c 1 (wmV c l s f.hi)
    · simp only [h2]; exact ⟨⟨p1, p2⟩, rfl⟩
    · simp only [h2]; exact ⟨⟨p1, p2, trivial⟩, rfl⟩
noncomputable abbrev balS : PSpec := { dom := Ca × List Gu × List Int × Sp, enc := pcE, dec := fun l => decC pcE (nf2 l), pre := PFit, res := fun d => .bool (balB d.1 d.2.1 d.2.2.2 d.2.2.1) }
noncomputable abbrev E47 : Env := { P := Try.prog, fn := tbl [(60, .pure endsS), (90, .iter endI), (42, .pure withinS)], own := [], key := 4700, nt := 30, frz := [(1, [4, 50004])] }
theorem b47 : PureBody E47 [] Try.f47 balS := by
  refine pb ?_
  rintro ⟨c, l, s, f⟩ hP
  obtain ⟨hL, hR⟩ := id hP
  simp only at hL hR
  have hlow := hL.cf.low
  have hhigh := hL.cf.high
  simp -dsimp [Try.f47, E47, Ca.row, Sp.row]
  repeat' (first | omega | (simp -dsimp [E47, ri, cellp, ints, Ca.row, Sp.row, pcE_dec]) | (refine Also.intro ?_ fun _ => ?_) | (refine Hold.intro fun _ => ?_) | (refine And.intro ?_ ?_))
  obtain ⟨hr1, hr2⟩ := bal_run c l s f hL
  refine awp_range (LC := baL) (keys := [4708, 4709]) (pre := baP) (go := baG c) (nxt := baN) baL_inj baL_keys 0 .ret (endL (c, l, s, f)) (own := [9008, 9010]) (ro := []) (dec := endDec) (by simp; exact ⟨rfl, rfl⟩) (by simp; rfl) rfl (by decide) (by decide) (by decide) ⟨rfl, rfl⟩ ?_ ?_ ?_ hr1 ?_ ?_ ?_
  · intro k hk
    simp at hk
    rcases hk with rfl | rfl <;> rfl
  · intro k hk
    simp at hk
    rcases hk with rfl | rfl <;> rfl
  · have := endDec_at (c, l, s, f)
    simp -dsimp [enE, Ca.row, Sp.row] at this
    rw [this]
    exact ⟨hP, rfl⟩
  · rintro n x hb ⟨w, m, rfl, hw⟩ hy1 hy2
    refine ⟨rfl, ?_⟩
    have mu1 := mul_bd (a := w) (A := 300000) hw hlow
    have mu2 := mul_bd (a := w) (A := 300000) hw hhigh
    rw [Int.mul_comm w c.low] at mu1; rw [Int.mul_comm w c.high] at mu2
    have w1 : IntKind.wrap .i64 (c.low * w) = c.low * w := wrap_id (by omega) (by omega)
    have w2 : IntKind.wrap .i64 (c.high * w) = c.high * w := wrap_id (by omega) (by omega)
    have hG : baG c n [.agg [.int .i64 w, .int .i64 m]] = withinB m (c.low * w) (c.high * w) := rfl
    cases hb1 : withinB m (c.low * w) (c.high * w) <;> rw [hb1] at hG
    all_goals
      simp -dsimp [E47, setT, baL]
      repeat' (first | omega | (simp -dsimp [E47, ri, cellp, ints, w1, w2, hb1, hG, Ca.row, Sp.row]) | (refine Also.intro ?_ fun _ => ?_) | (refine Hold.intro fun _ => ?_) | (refine And.intro ?_ ?_))
      exact (by (try simp -dsimp only [hpush_noH, hpush_hps, hps_over]); refine hle_hpsb ?_; simp -dsimp [allK, baL]; repeat' (first | (refine And.intro ?_ ?_) | (refine sLe.same ?_ ?_ <;> (simp; done)) | (refine sLe.clear ?_ ?_ <;> (first | (simp; done) | (simp; omega))) | (refine sLe.drop 1 ?_ ?_ ?_ <;> (simp; done))))
  · intro h
    rw [hr2] at h
    simp -dsimp [baL, hps_app]
    repeat' (first | omega | (simp -dsimp [E47, ri, cellp, ints, h]) | (refine Also.intro ?_ fun _ => ?_) | (refine Hold.intro fun _ => ?_) | (refine And.intro ?_ ?_))
  · intro h
    rw [hr2] at h
    refine ⟨by simp, ?_⟩
    simp -dsimp [baL, hps_app]
    repeat' (first | omega | (simp -dsimp [E47, ri, cellp, ints, h]) | (refine Also.intro ?_ fun _ => ?_) | (refine Hold.intro fun _ => ?_) | (refine And.intro ?_ ?_))
theorem ok47 : FnOK Try.prog 47 (.pure balS) := pure_fn (E := E47) rfl (.cons ok60 (.cons ok90 (.cons ok42 .nil))) (ok := []) (fn := Try.f47) (by kernel_rfl) (by kernel_rfl) (by kernel_rfl) (by kernel_rfl) rfl (fun _ _ => by simp) b47
def blV (c : Ca) (l : List Gu) (s : List Int) (f : Sp) : V := .tup [.bool (decide (seaE c l s f = 0) && balB c l f s), .int .i64 (seaE c l s f)]
noncomputable abbrev BalS : PSpec := { dom := Ca × List Gu × List Int × Sp, enc := pcE, dec := fun l => decC pcE (nf2 l), pre := PcP, res := fun d => blV d.1 d.2.1 d.2.2.1 d.2.2.2 }
theorem pfit_of {c : Ca} {l : List Gu} {s : List Int} {f : Sp} (h : seaE c l s f = 0) : PFit (c, l, s, f) := by
  unfold seaE at h
  split at h
  · rename_i h1
    split at h
    · rename_i h2; exact ⟨lodE_zero h1, h2⟩
    · omega
  · rename_i h1; exact absurd h h1
noncomputable abbrev E23 : Env := { P := Try.prog, fn := tbl [(50, .pure seaS), (47, .pure balS)], own := [], key := 2300, nt := 24 }
theorem b23 : PureBody E23 [] Try.f23 BalS := by
  refine pb ?_
  rintro ⟨c, l, s, f⟩ hP
  have hP : PcP (c, l, s, f) := hP
  have hK : blV c l s f = .tup [.bool (decide (seaE c l s f = 0) && balB c l f s), .int .i64 (seaE c l s f)] := rfl
  by_cases he : seaE c l s f = 0
  · have hF := pfit_of he
    rw [he] at hK
    simp -dsimp [Try.f23, E23, Ca.row, Sp.row]
    repeat' (first | omega | (simp -dsimp [E23, ri, cellp, ints, Ca.row, Sp.row, pcE_dec, nf2_sl, hP, he, hF, hK]) | (refine Also.intro ?_ fun _ => ?_) | (refine Hold.intro fun _ => ?_) | (refine And.intro ?_ ?_))
  · have he' : (seaE c l s f = 0) = False := eq_false he
    rw [decide_eq_false he] at hK
    simp -dsimp [Try.f23, E23, Ca.row, Sp.row]
    repeat' (first | omega | (simp -dsimp [E23, ri, cellp, ints, Ca.row, Sp.row, pcE_dec, hP, he', hK]) | (refine Also.intro ?_ fun _ => ?_) | (refine Hold.intro fun _ => ?_) | (refine And.intro ?_ ?_))
theorem ok23 : FnOK Try.prog 23 (.pure BalS) := pure_fn (E := E23) rfl (.cons ok50 (.cons ok47 .nil)) (ok := []) (fn := Try.f23) (by kernel_rfl) (by kernel_rfl) (by kernel_rfl) (by kernel_rfl) rfl (fun _ _ => by simp) b23
end Go.Sx
end
section
/- Crew, plain: the search of a seating as the program walks it, with its one slice. No conditions. -/
set_option linter.unusedSimpArgs false
set_option linter.unusedSectionVars false
namespace Go.Sx

/-- The slice: 0, it is nil; 1, it is the first that was made; above, how often it was cut; what it holds. -/
structure SS where
  m : Nat
  w : List Int
  deriving DecidableEq, Inhabited
def SS.add (s : SS) (x : Nat) : SS := ⟨if s.m = 0 then 1 else s.m, s.w ++ [(x : Int)]⟩
def SS.back (s : SS) (i : Nat) : SS := ⟨s.m + 1, s.w.take i⟩
def lpX (g : SS → Bool × SS) (c : Ca) (u : Gu) (i : Nat) (s : SS) : Nat → Bool × SS
  | 0 => (false, s)
  | k + 1 => if (lpX g c u i s k).1 = true then lpX g c u i s k
    else if sitsB c u (lpX g c u i s k).2.w k = true then
      (if (g ((lpX g c u i s k).2.add k)).1 = true then (true, (g ((lpX g c u i s k).2.add k)).2) else (false, (g ((lpX g c u i s k).2.add k)).2.back i))
    else (false, (lpX g c u i s k).2)
theorem lpX_stop (g : SS → Bool × SS) (c : Ca) (u : Gu) (i : Nat) (s : SS) {k : Nat} (h : (lpX g c u i s k).1 = true) : ∀ n, lpX g c u i s (k + n) = lpX g c u i s k
  | 0 => rfl
  | n + 1 => by
    have ih := lpX_stop g c u i s h n
    rw [← Nat.add_assoc, lpX, if_pos (by rw [ih]; exact h), ih]
theorem lpX_succ {g : SS → Bool × SS} {c : Ca} {u : Gu} {i : Nat} {s : SS} {k : Nat} (h : (lpX g c u i s k).1 = false) : lpX g c u i s (k + 1) =
    if sitsB c u (lpX g c u i s k).2.w k = true then
      (if (g ((lpX g c u i s k).2.add k)).1 = true then (true, (g ((lpX g c u i s k).2.add k)).2) else (false, (g ((lpX g c u i s k).2.add k)).2.back i))
    else (false, (lpX g c u i s k).2) := by
  rw [lpX, if_neg (by rw [h]; decide)]
def sitX (c : Ca) (l : List Gu) (f : Sp) : Nat → SS → Bool × SS
  | 0, s => (balB c l f s.w, s)
  | m + 1, s => lpX (sitX c l f m) c (guAt l s.w.length) s.w.length s c.st.length
/-- The state is one that occurs. -/
def SS.Ok (s : SS) : Prop := s.m = 0 → s.w = []
theorem SS.Ok.add (s : SS) (x : Nat) : (s.add x).Ok := by intro h; simp only [SS.add] at h; split at h <;> omega
theorem SS.Ok.back (s : SS) (i : Nat) : (s.back i).Ok := by intro h; simp [SS.back] at h
theorem SS.add_m (s : SS) (x : Nat) : s.m ≤ (s.add x).m ∧ 1 ≤ (s.add x).m := by unfold SS.add; split <;> simp_all <;> omega
structure SX (c : Ca) (l : List Gu) (f : Sp) (s : SS) (F : Option (List Int)) (r : Bool × SS) : Prop where
  ok : r.2.Ok
  m : s.m ≤ r.2.m
  yes : r.1 = true → F = some r.2.w
  no : r.1 = false → F = none ∧ r.2.w = s.w
def stepF (c : Ca) (l : List Gu) (f : Sp) (m : Nat) (b : List Int) (s : Nat) : Option (List Int) := if sitsB c (guAt l b.length) b s = true then sitF c l f m (b ++ [(s : Int)]) else none
theorem findSome_snoc {α β : Type} (g : α → Option β) (l : List α) (x : α) : (l ++ [x]).findSome? g = (l.findSome? g).or (g x) := by
  rw [List.findSome?_append]; simp
theorem sitX_lp (c : Ca) (l : List Gu) (f : Sp) (m : Nat) (ih2 : ∀ s : SS, s.Ok → SX c l f s (sitF c l f m s.w) (sitX c l f m s)) (s : SS) (h : s.Ok) : ∀ k, SX c l f s ((List.range k).findSome? (stepF c l f m s.w)) (lpX (sitX c l f m) c (guAt l s.w.length) s.w.length s k)
  | 0 => ⟨h, Nat.le_refl _, fun hb => by simp [lpX] at hb, fun _ => ⟨rfl, rfl⟩⟩
  | k + 1 => by
    have ih := sitX_lp c l f m ih2 s h k
    rw [lpX]
    generalize lpX (sitX c l f m) c (guAt l s.w.length) s.w.length s k = r at *
    obtain ⟨b, t⟩ := r
    obtain ⟨ok, mm, yes, no⟩ := ih
    dsimp only at *
    rw [List.range_succ]
    by_cases hb : b = true
    · rw [if_pos hb]
      exact ⟨ok, mm, fun _ => by rw [findSome_snoc, yes hb]; rfl, fun h0 => by simp only at h0; rw [hb] at h0; cases h0⟩
    · rw [if_neg hb]
      obtain ⟨n1, n2⟩ := no (by simpa using hb)
      by_cases hs : sitsB c (guAt l s.w.length) t.w k = true
      · rw [if_pos hs]
        have hw : (t.add k).w = s.w ++ [(k : Int)] := by simp [SS.add, n2]
        have hst : stepF c l f m s.w k = sitF c l f m (t.add k).w := by
          unfold stepF; rw [← n2] at hs ⊢; rw [if_pos hs, hw, n2]
        obtain ⟨a1, a2, a3, a4⟩ := ih2 (t.add k) (SS.Ok.add t k)
        generalize sitX c l f m (t.add k) = r at *
        obtain ⟨b', u⟩ := r
        dsimp only at *
        have hk1 : s.m ≤ u.m := Nat.le_trans mm (Nat.le_trans (SS.add_m t k).1 a2)
        by_cases hb' : b' = true
        · rw [if_pos hb']
          exact ⟨a1, hk1, fun _ => by rw [findSome_snoc, n1, hst, a3 hb']; rfl, fun h0 => by simp at h0⟩
        · rw [if_neg hb']
          obtain ⟨c1, c2⟩ := a4 (by simpa using hb')
          refine ⟨SS.Ok.back u _, by simp [SS.back]; omega, fun h0 => by simp at h0, fun _ => ⟨by rw [findSome_snoc, n1, hst, c1]; rfl, ?_⟩⟩
          simp only [SS.back, c2, hw]
          rw [List.take_left' rfl]
      · rw [if_neg hs]
        refine ⟨ok, mm, fun h0 => by simp at h0, fun _ => ⟨?_, n2⟩⟩
        rw [findSome_snoc, n1]
        unfold stepF; rw [← n2] at hs ⊢; rw [if_neg hs]; rfl
theorem sitX_ok (c : Ca) (l : List Gu) (f : Sp) : ∀ (m : Nat) (s : SS), s.Ok → SX c l f s (sitF c l f m s.w) (sitX c l f m s)
  | 0, s, h => ⟨h, Nat.le_refl _, fun hb => by
      have hb : balB c l f s.w = true := hb
      rw [sitF, if_pos hb]; rfl, fun hb => by
      have hb : balB c l f s.w = false := hb
      rw [sitF, if_neg (by simp [hb])]; exact ⟨rfl, rfl⟩⟩
  | m + 1, s, h => sitX_lp c l f m (sitX_ok c l f m) s h c.st.length
end Go.Sx
end
