/- A part of a proof; no conditions. -/
import Derived.Test.YtomgmojjdgiieaaGreatP23
set_option linter.unusedSimpArgs false
set_option linter.unusedVariables false
set_option linter.unusedSectionVars false
section
/- Tables: the search in an axis, fractions. No conditions. -/
set_option linter.unusedSimpArgs false
set_option linter.unusedSectionVars false
set_option maxRecDepth 100000
set_option maxHeartbeats 4000000
namespace Go.Sx.Tab
open Go.Proofs Go.Sx
attribute [local irreducible] HLe
attribute [local simp] hps_app
@[simp] def i2E (d : Int × Int) : List V := [.int .i64 d.1, .int .i64 d.2]
theorem i2E_inj (a b : Int × Int) (h : i2E a = i2E b) : a = b := by
  simp only [i2E, List.cons.injEq, V.int.injEq, true_and, and_true] at h
  exact Prod.ext h.1 h.2
theorem i2E_dec (a b : Int) : decC i2E [.int .i64 a, .int .i64 b] = (a, b) := decC_eq i2E_inj (a, b)
noncomputable abbrev nanS : PSpec := mkP i1E (fun _ => True) fun _ => .bool false
noncomputable abbrev lssS : PSpec := mkP i2E (fun _ => True) fun d => .bool (decide (d.1 < d.2))
noncomputable abbrev E74 : Env := { P := Tryz.prog, fn := tbl [], own := [], key := 7400, nt := 6 }
theorem b74 : PureBody E74 [] Tryz.f74 nanS := by
  refine pb ?_
  rintro n _
  simp -dsimp [Tryz.f74, E74]
theorem ok74 : FnOK Tryz.prog 74 (.pure nanS) := pure_fn (E := E74) rfl LOK.nil (ok := []) (fn := Tryz.f74) (by kernel_rfl) (by kernel_rfl) (by kernel_rfl) (by kernel_rfl) rfl (fun _ _ => by simp) b74
noncomputable abbrev E127 : Env := { P := Tryz.prog, fn := tbl [], own := [], key := 12700, nt := 6 }
theorem b127 : PureBody E127 [] Tryz.f127 nanS := by
  refine pb ?_
  rintro n _
  simp -dsimp [Tryz.f127, E127]
theorem ok127 : FnOK Tryz.prog 127 (.pure nanS) := pure_fn (E := E127) rfl LOK.nil (ok := []) (fn := Tryz.f127) (by kernel_rfl) (by kernel_rfl) (by kernel_rfl) (by kernel_rfl) rfl (fun _ _ => by simp) b127
noncomputable abbrev E126 : Env := { P := Tryz.prog, fn := tbl [(74, .pure nanS)], own := [], key := 12600, nt := 17 }
theorem b126 : PureBody E126 [] Tryz.f126 lssS := by
  refine pb ?_
  rintro ⟨a, b⟩ _
  simp -dsimp [Tryz.f126, E126]
  repeat' (first | omega | (simp -dsimp [E126, ri, cellp, ints, i1E_dec]) | (refine Also.intro ?_ fun _ => ?_) | (refine Hold.intro fun _ => ?_) | (refine And.intro ?_ ?_))
theorem ok126 : FnOK Tryz.prog 126 (.pure lssS) := pure_fn (E := E126) rfl (.cons ok74 .nil) (ok := []) (fn := Tryz.f126) (by kernel_rfl) (by kernel_rfl) (by kernel_rfl) (by kernel_rfl) rfl (fun _ _ => by simp) b126
theorem hsh (n : Nat) (hn : n < 4611686018427387904) : shrV .u64 (n : Int) 1 = (n / 2 : Nat) := by
  have e : min (1 : Int).toNat IntKind.u64.bits = 1 := rfl
  rw [shrV, e, Int.fdiv_eq_ediv_of_nonneg _ (by decide)]
  omega
@[simp] def bsE (d : List Int × Int) : List V := [ints d.1, .int .i64 d.2]
theorem bsE_inj (a b : List Int × Int) (h : bsE a = bsE b) : a = b := by
  obtain ⟨a1, a2⟩ := a; obtain ⟨b1, b2⟩ := b
  simp only [bsE, List.cons.injEq, V.int.injEq, true_and, and_true] at h
  rw [ints_inj _ _ h.1, h.2]
theorem bsE_dec (l : List Int) (x : Int) : decC bsE [.sl 1 (l.map ri), .int .i64 x] = (l, x) := decC_eq bsE_inj (l, x)
def bsN (l : List Int) (x : Int) : Nat := l.findIdx fun y => decide (x ≤ y)
theorem bsN_eq {l : List Int} {x : Int} {i : Nat} (hi : i ≤ l.length) (lo : ∀ t, t < i → l.getD t 0 < x) (hl : ∀ t, i ≤ t → t < l.length → x ≤ l.getD t 0) : bsN l x = i := by
  unfold bsN
  by_cases h : i < l.length
  · rw [List.findIdx_eq h]
    refine ⟨?_, fun j hj => ?_⟩
    · have := hl i (Nat.le_refl _) h
      simpa [List.getD, h] using this
    · have := lo j hj
      have hj2 : j < l.length := by omega
      simp only [List.getD, List.getElem?_eq_getElem hj2, Option.getD_some] at this
      simp; omega
  · have : i = l.length := by omega
    subst this
    rw [List.findIdx_eq_length]
    intro y hy
    obtain ⟨j, hj, rfl⟩ := List.getElem_of_mem hy
    have := lo j hj
    simp only [List.getD, List.getElem?_eq_getElem hj, Option.getD_some] at this
    simp; omega
def bsF (l : List Int) (x : Int) : Bool := decide (bsN l x < l.length ∧ l.getD (bsN l x) 0 = x)
structure BsP (d : List Int × Int) : Prop where
  n : d.1.length ≤ 1000000
  s : ∀ i j, i ≤ j → j < d.1.length → d.1.getD i 0 ≤ d.1.getD j 0
noncomputable abbrev bsS : PSpec := mkP bsE BsP fun d => .tup [.int .i64 (bsN d.1 d.2 : Nat), .bool (bsF d.1 d.2)]
structure BsI (l : List Int) (x : Int) where
  i : Nat
  j : Nat
  ij : i ≤ j
  jl : j ≤ l.length
  lo : ∀ t, t < i → l.getD t 0 < x
  hi : ∀ t, j ≤ t → t < l.length → x ≤ l.getD t 0
noncomputable abbrev E125 : Env := { P := Tryz.prog, fn := tbl [(126, .pure lssS), (127, .pure nanS)], own := [], key := 12500, nt := 54 }
theorem b125 : PureBody E125 [] Tryz.f125 bsS := by
  refine pb ?_
  rintro ⟨l, x⟩ ⟨hl, hs⟩
  simp only at hl hs
  simp -dsimp [Tryz.f125, E125]
  repeat' (first | omega | (simp -dsimp [E125, ri, cellp, ints, hl]) | (refine Also.intro ?_ fun _ => ?_) | (refine Hold.intro fun _ => ?_) | (refine And.intro ?_ ?_))
  refine awp_loop [13, 14, 15, 16, 17, 18, 19, 20, 21, 9, 22, 23, 24, 25, 26, 27, 28, 29, 7, 30, 8] (fun s : BsI l x => [(7, (true, .int .i64 (s.i : Nat))), (8, (true, .int .i64 (s.j : Nat)))]) (fun _ => noH) (fun s => s.j - s.i) ⟨0, l.length, by omega, by omega, fun _ h => by omega, fun _ h1 h2 => by omega⟩ ?_ (HLe.refl _) ?_
  · simp [okAll, okv]
  rintro ⟨i, j, ij, jl, lo, hi⟩
  simp only
  by_cases hlt : i < j
  · have hlti : ((i : Int) < j) = True := eq_true (by omega)
    have e1 : IntKind.wrap .i64 ((i : Int) + j) = (i : Int) + j := wrap_id (by omega) (by omega)
    have e2 : IntKind.wrap .u64 ((i : Int) + j) = (i : Int) + j := by simp [IntKind.wrap, IntKind.bits, IntKind.signed]; omega
    obtain ⟨h, hh⟩ : ∃ h, (i + j) / 2 = h := ⟨_, rfl⟩
    have e3 : shrV .u64 ((i : Int) + j) 1 = (h : Int) := by rw [show (i : Int) + j = ((i + j : Nat) : Int) by omega, hsh (i + j) (by omega), hh]
    have e4 : IntKind.wrap .i64 (h : Int) = h := wrap_id (by omega) (by omega)
    have e5 : IntKind.wrap .i64 ((h : Int) + 1) = (h : Int) + 1 := wrap_id (by omega) (by omega)
    have hM : IntKind.wrap .i64 (shrV .u64 (IntKind.wrap .u64 ((i : Int) + j)) 1) = (h : Int) := by rw [e2, e3, e4]
    have hhl : h < l.length := by omega
    obtain ⟨y, hy, hy'⟩ := get_ex hhl
    have gy : l.getD h 0 = y := by simp [List.getD, hy]
    by_cases hxy : y < x
    · simp -dsimp [hlti]
      repeat' (first | omega | (simp -dsimp [E125, ri, cellp, ints, hlti, e1, hM, e5, hhl, hy, hy', i2E_dec, hxy]) | (refine Also.intro ?_ fun _ => ?_) | (refine Hold.intro fun _ => ?_) | (refine And.intro ?_ ?_))
      refine ⟨⟨h + 1, j, by omega, jl, fun t ht => ?_, hi⟩, tle_chain rfl ?_, HLe.refl _, by simp only; omega⟩
      · have := hs t h (by omega) hhl; omega
      · simp [okAll, okv]
    · have hxy' : (y < x) = False := eq_false hxy
      simp -dsimp [hlti]
      repeat' (first | omega | (simp -dsimp [E125, ri, cellp, ints, hlti, e1, hM, e5, hhl, hy, hy', i2E_dec, hxy']) | (refine Also.intro ?_ fun _ => ?_) | (refine Hold.intro fun _ => ?_) | (refine And.intro ?_ ?_))
      refine ⟨⟨i, h, by omega, by omega, lo, fun t ht htl => ?_⟩, tle_chain rfl ?_, HLe.refl _, by simp only; omega⟩
      · have := hs h t ht htl; omega
      · simp [okAll, okv]
  · have hie : i = j := by omega
    subst hie
    have hn := bsN_eq jl lo hi
    have hlti : ((i : Int) < i) = False := eq_false (by omega)
    by_cases hil : i < l.length
    · have hili : ((i : Int) < l.length) = True := eq_true (by omega)
      obtain ⟨y, hy, hy'⟩ := get_ex hil
      have hf : bsF l x = decide (y = x) := by simp [bsF, hn, hil, List.getD, hy, hy']
      by_cases hyx : y = x
      · have hf' : bsF l x = true := by rw [hf]; simp [hyx]
        simp -dsimp [hlti]
        repeat' (first | omega | (simp -dsimp [E125, ri, cellp, ints, hlti, hili, hil, hy, hy', hyx, hn, hf', i1E_dec]) | (refine Also.intro ?_ fun _ => ?_) | (refine Hold.intro fun _ => ?_) | (refine And.intro ?_ ?_))
      · have hyx' : (y = x) = False := eq_false hyx
        have hf' : bsF l x = false := by rw [hf]; simp [hyx]
        simp -dsimp [hlti]
        repeat' (first | omega | (simp -dsimp [E125, ri, cellp, ints, hlti, hili, hil, hy, hy', hyx', hn, hf', i1E_dec]) | (refine Also.intro ?_ fun _ => ?_) | (refine Hold.intro fun _ => ?_) | (refine And.intro ?_ ?_))
    · have hili : ((i : Int) < l.length) = False := eq_false (by omega)
      have hf' : bsF l x = false := by simp [bsF, hn, hil]
      simp -dsimp [hlti]
      repeat' (first | omega | (simp -dsimp [E125, ri, cellp, ints, hlti, hili, hil, hn, hf', i1E_dec]) | (refine Also.intro ?_ fun _ => ?_) | (refine Hold.intro fun _ => ?_) | (refine And.intro ?_ ?_))
theorem ok125 : FnOK Tryz.prog 125 (.pure bsS) := pure_fn (E := E125) rfl (.cons ok126 (.cons ok127 .nil)) (ok := []) (fn := Tryz.f125) (by kernel_rfl) (by kernel_rfl) (by kernel_rfl) (by kernel_rfl) rfl (fun _ _ => by simp) b125
def celN (l : List Int) (x : Int) : Nat := bsN ((l.drop 1).take (l.length - 2)) x
theorem axB_asc {l : List Int} (h : axB l = true) : asc l := by
  intro i hi
  simp only [axB, Bool.and_eq_true, List.all_eq_true] at h
  have := h.2 (i + 1) (by simpa using hi)
  simp only [axAt, Bool.and_eq_true, Bool.or_eq_true, decide_eq_true_eq, Nat.add_sub_cancel] at this
  rcases this.2 with h1 | h1
  · omega
  · have : 1 ≤ l.getD (i + 1) 0 - l.getD i 0 ∧ l.getD (i + 1) 0 - l.getD i 0 ≤ 10000 := by simpa [withinB] using h1
    omega
theorem inner_getD {l : List Int} {i : Nat} (hi : i < l.length - 2) : ((l.drop 1).take (l.length - 2)).getD i 0 = l.getD (i + 1) 0 := by
  simp only [List.getD]
  rw [List.getElem?_take_of_lt hi, List.getElem?_drop, Nat.add_comm 1 i]
theorem inner_len {l : List Int} (h : 2 ≤ l.length) : ((l.drop 1).take (l.length - 2)).length = l.length - 2 := by simp; omega
theorem bsN_le (l : List Int) (x : Int) : bsN l x ≤ l.length := List.findIdx_le_length
theorem celN_lt {l : List Int} (h : 2 ≤ l.length) (x : Int) : celN l x + 1 < l.length := by
  have := bsN_le ((l.drop 1).take (l.length - 2)) x
  rw [inner_len h] at this
  unfold celN; omega
noncomputable abbrev celS : PSpec := mkP bsE (fun d => axB d.1 = true) fun d => .int .i64 (celN d.1 d.2 : Nat)
noncomputable abbrev E121 : Env := { P := Tryz.prog, fn := tbl [(125, .pure bsS)], own := [], key := 12100, nt := 18 }
theorem b121 : PureBody E121 [] Tryz.f121 celS := by
  refine pb ?_
  rintro ⟨l, x⟩ hax
  have hax : axB l = true := hax
  have hl := axB_len hax
  have hasc := axB_asc hax
  have wl : IntKind.wrap .i64 ((l.length : Int) - 1) = (l.length - 1 : Nat) := by rw [wrap_id (by omega) (by omega)]; omega
  have hP : BsP ((l.drop 1).take (l.length - 2), x) := ⟨by simp only; rw [inner_len hl.1]; omega, fun i j hij hj => by
    simp only at hj ⊢
    rw [inner_len hl.1] at hj
    rw [inner_getD (by omega), inner_getD (by omega)]
    exact asc_le hasc (by omega) (by omega)⟩
  have hd := bsE_dec ((l.drop 1).take (l.length - 2)) x
  have hm : List.take (l.length - 1 - 1) (l.map ri).tail = ((l.drop 1).take (l.length - 2)).map ri := by
    rw [show (l.map ri).tail = (l.drop 1).map ri by simp, ← List.map_take, show l.length - 1 - 1 = l.length - 2 by omega]
  have hc : celN l x = bsN ((l.drop 1).take (l.length - 2)) x := rfl
  generalize (l.drop 1).take (l.length - 2) = T at *
  simp -dsimp [Tryz.f121, E121]
  repeat' (first | omega | (simp -dsimp [E121, ri, cellp, ints, hl, wl, hP, hd, hm, hc]) | (refine Also.intro ?_ fun _ => ?_) | (refine Hold.intro fun _ => ?_) | (refine And.intro ?_ ?_))
theorem ok121 : FnOK Tryz.prog 121 (.pure celS) := pure_fn (E := E121) rfl (.cons ok125 .nil) (ok := []) (fn := Tryz.f121) (by kernel_rfl) (by kernel_rfl) (by kernel_rfl) (by kernel_rfl) rfl (fun _ _ => by simp) b121
end Go.Sx.Tab
end
section
/- Tables: fractions, and the value at a point. No conditions. -/
set_option linter.unusedSimpArgs false
set_option linter.unusedSectionVars false
set_option maxRecDepth 100000
set_option maxHeartbeats 4000000
namespace Go.Sx.Tab
open Go.Proofs Go.Sx
attribute [local irreducible] HLe
attribute [local simp] hps_app
theorem floor_prog (m w : Int) (hw : 0 < w) : (if m.tmod w < 0 then m.tdiv w - 1 else m.tdiv w) = m / w := by
  rcases Int.le_total 0 m with h | h
  · rw [Int.tdiv_eq_ediv_of_nonneg h, Int.tmod_eq_emod_of_nonneg h, if_neg (by have := Int.emod_nonneg m (Int.ne_of_gt hw); omega)]
  · obtain ⟨k, rfl⟩ : ∃ k, m = -k := ⟨-m, by omega⟩
    have hk : 0 ≤ k := by omega
    rw [Int.neg_tmod, Int.neg_tdiv, Int.tdiv_eq_ediv_of_nonneg hk, Int.tmod_eq_emod_of_nonneg hk]
    have e := Int.mul_ediv_add_emod k w
    have e2 := Int.emod_nonneg k (Int.ne_of_gt hw)
    have e3 := Int.emod_lt_of_pos k hw
    generalize k / w = q at *
    generalize k % w = t at *
    split
    · rename_i h0
      symm
      rw [Int.ediv_eq_iff_of_pos hw]
      rw [Int.sub_mul, Int.neg_mul, Int.mul_comm q w]
      omega
    · symm
      rw [Int.ediv_eq_iff_of_pos hw]
      rw [Int.neg_mul, Int.mul_comm q w]
      omega
structure Bd (m : Int) : Prop where
  lo : -1000000000000000000 ≤ m
  hi : m ≤ 1000000000000000000
theorem ediv_bd {m w : Int} (hw : 0 < w) (hm : Bd m) : Bd (m / w) := by
  obtain ⟨h1, h2⟩ := hm
  rcases Int.le_total 0 m with h | h
  · have h1 := Int.ediv_nonneg h (Int.le_of_lt hw)
    have h2 := Int.ediv_le_self w h
    exact ⟨by omega, by omega⟩
  · have h1 : m / w ≤ 0 := by
      have := Int.ediv_le_ediv hw h
      simpa using this
    have h2 : m ≤ m / w := by
      rw [Int.le_ediv_iff_mul_le hw]
      have := Int.mul_le_mul_of_nonpos_left (a := m) (b := w) (c := 1) h (by omega)
      omega
    exact ⟨by omega, by omega⟩
structure FlP (d : Int × Int) : Prop where
  n : Bd d.1
  w : 0 < d.2
noncomputable abbrev floS : PSpec := mkP i2E FlP fun d => .int .i64 (d.1 / d.2)
noncomputable abbrev ceiS : PSpec := mkP i2E FlP fun d => .int .i64 (-(-d.1 / d.2))
noncomputable abbrev E37 : Env := { P := Tryz.prog, fn := tbl [], own := [], key := 3700, nt := 16 }
theorem b37 : PureBody E37 [] Tryz.f37 floS := by
  refine pb ?_
  rintro ⟨m, w⟩ ⟨hm, hw⟩
  simp only at hm hw
  have hf := floor_prog m w hw
  have hb := ediv_bd hw hm
  obtain ⟨b1, b2⟩ := hb
  have hw0 : (w = 0) = False := eq_false (by omega)
  generalize hq : m / w = q at *
  generalize ht : m.tdiv w = t at *
  generalize hu : m.tmod w = u at *
  by_cases h0 : u < 0
  · rw [if_pos h0] at hf
    have w1 : IntKind.wrap .i64 t = t := wrap_id (by omega) (by omega)
    have w2 : IntKind.wrap .i64 (t - 1) = q := by rw [wrap_id (by omega) (by omega)]; exact hf
    simp -dsimp [Tryz.f37, E37]
    repeat' (first | omega | (simp -dsimp [E37, ri, cellp, ints, hw0, ht, hu, hq, w1, w2, h0]) | (refine Also.intro ?_ fun _ => ?_) | (refine Hold.intro fun _ => ?_) | (refine And.intro ?_ ?_))
  · rw [if_neg h0] at hf
    have w1 : IntKind.wrap .i64 t = t := wrap_id (by omega) (by omega)
    have h0' : (u < 0) = False := eq_false h0
    subst hf
    simp -dsimp [Tryz.f37, E37]
    repeat' (first | omega | (simp -dsimp [E37, ri, cellp, ints, hw0, ht, hu, hq, w1, h0']) | (refine Also.intro ?_ fun _ => ?_) | (refine Hold.intro fun _ => ?_) | (refine And.intro ?_ ?_))
theorem ok37 : FnOK Tryz.prog 37 (.pure floS) := pure_fn (E := E37) rfl LOK.nil (ok := []) (fn := Tryz.f37) (by kernel_rfl) (by kernel_rfl) (by kernel_rfl) (by kernel_rfl) rfl (fun _ _ => by simp) b37
noncomputable abbrev E70 : Env := { P := Tryz.prog, fn := tbl [(37, .pure floS)], own := [], key := 7000, nt := 10 }
theorem b70 : PureBody E70 [] Tryz.f70 ceiS := by
  refine pb ?_
  rintro ⟨m, w⟩ ⟨⟨h1, h2⟩, hw⟩
  simp only at h1 h2 hw
  have w1 : IntKind.wrap .i64 (-m) = -m := wrap_id (by omega) (by omega)
  have hP : FlP (-m, w) := ⟨⟨by simp only; omega, by simp only; omega⟩, hw⟩
  obtain ⟨b1, b2⟩ := ediv_bd hw hP.n
  simp only at b1 b2
  generalize hq : -m / w = q at *
  have w2 : IntKind.wrap .i64 (-q) = -q := wrap_id (by omega) (by omega)
  simp -dsimp [Tryz.f70, E70]
  repeat' (first | omega | (simp -dsimp [E70, ri, cellp, ints, w1, hP, hq, w2, i2E_dec]) | (refine Also.intro ?_ fun _ => ?_) | (refine Hold.intro fun _ => ?_) | (refine And.intro ?_ ?_))
theorem ok70 : FnOK Tryz.prog 70 (.pure ceiS) := pure_fn (E := E70) rfl (.cons ok37 .nil) (ok := []) (fn := Tryz.f70) (by kernel_rfl) (by kernel_rfl) (by kernel_rfl) (by kernel_rfl) rfl (fun _ _ => by simp) b70
@[simp] def vaE (d : Int × Int) : List V := [.agg [.int .i64 d.1, .int .i64 d.2]]
theorem vaE_inj (a b : Int × Int) (h : vaE a = vaE b) : a = b := by
  simp only [vaE, List.cons.injEq, V.agg.injEq, V.int.injEq, true_and, and_true] at h
  exact Prod.ext h.1 h.2
theorem vaE_dec (a b : Int) : decC vaE [.agg [.int .i64 a, .int .i64 b]] = (a, b) := decC_eq vaE_inj (a, b)
noncomputable abbrev upS : PSpec := mkP vaE FlP fun d => .int .i64 (-(-d.1 / d.2))
noncomputable abbrev E38 : Env := { P := Tryz.prog, fn := tbl [(70, .pure ceiS)], own := [], key := 3800, nt := 8 }
theorem b38 : PureBody E38 [] Tryz.f38 upS := by
  refine pb ?_
  rintro ⟨m, w⟩ hP
  simp -dsimp [Tryz.f38, E38]
  repeat' (first | omega | (simp -dsimp [E38, ri, cellp, ints, hP, i2E_dec]) | (refine Also.intro ?_ fun _ => ?_) | (refine Hold.intro fun _ => ?_) | (refine And.intro ?_ ?_))
theorem ok38 : FnOK Tryz.prog 38 (.pure upS) := pure_fn (E := E38) rfl (.cons ok70 .nil) (ok := []) (fn := Tryz.f38) (by kernel_rfl) (by kernel_rfl) (by kernel_rfl) (by kernel_rfl) rfl (fun _ _ => by simp) b38
@[simp] def twE (d : Int × Int) : List V := [.sl 1 [[.int .i64 d.1], [.int .i64 d.2]]]
theorem twE_inj (a b : Int × Int) (h : twE a = twE b) : a = b := by
  simp only [twE, List.cons.injEq, V.sl.injEq, V.int.injEq, true_and, and_true] at h
  exact Prod.ext h.1 h.2
theorem twE_dec (a b : Int) : decC twE [.sl 1 [[.int .i64 a], [.int .i64 b]]] = (a, b) := decC_eq twE_inj (a, b)
noncomputable abbrev orS : PSpec := mkP twE (fun _ => True) fun d => .int .i64 (if d.1 = 0 then d.2 else d.1)
structure OrI (a b : Int) where
  k : Nat
  le : k ≤ 2
  h1 : 1 ≤ k → a = 0
  h2 : 2 ≤ k → b = 0
noncomputable abbrev E109 : Env := { P := Tryz.prog, fn := tbl [], own := [], key := 10900, nt := 18 }
theorem b109 : PureBody E109 [] Tryz.f109 orS := by
  refine pb ?_
  rintro ⟨a, b⟩ _
  have w1 : IntKind.wrap .i64 1 = 1 := wrap_id (by omega) (by omega)
  have w2 : IntKind.wrap .i64 (1 + 1) = 2 := wrap_id (by omega) (by omega)
  have w3 : IntKind.wrap .i64 2 = 2 := wrap_id (by omega) (by omega)
  simp -dsimp [Tryz.f109, E109]
  refine awp_loop [9, 10, 11, 5, 12, 13, 14, 15, 2, 16, 8] (fun s : OrI a b => [(8, (true, .int .i64 (s.k : Nat)))]) (fun _ => noH) (fun s => 2 - s.k) ⟨0, by omega, fun h => absurd h (by omega), fun h => absurd h (by omega)⟩ ?_ (HLe.refl _) ?_
  · simp [okAll, okv]
  rintro ⟨k, le, h1, h2⟩
  simp only
  rcases (by omega : k = 0 ∨ k = 1 ∨ k = 2) with rfl | rfl | rfl
  · by_cases h : a = 0
    · subst h
      simp -dsimp []
      repeat' (first | omega | (simp -dsimp [E109, ri, cellp, ints, w1]) | (refine Also.intro ?_ fun _ => ?_) | (refine Hold.intro fun _ => ?_) | (refine And.intro ?_ ?_))
      refine ⟨⟨1, by omega, fun _ => rfl, fun h => absurd h (by omega)⟩, tle_chain rfl ?_, HLe.refl _, by simp⟩
      simp [okAll, okv]
    · have h' : (a = 0) = False := eq_false h
      simp -dsimp []
      repeat' (first | omega | (simp -dsimp [E109, ri, cellp, ints, w1, h']) | (refine Also.intro ?_ fun _ => ?_) | (refine Hold.intro fun _ => ?_) | (refine And.intro ?_ ?_))
  · have ha := h1 (by omega)
    subst ha
    by_cases h : b = 0
    · subst h
      simp -dsimp []
      repeat' (first | omega | (simp -dsimp [E109, ri, cellp, ints, w1, w2, w3]) | (refine Also.intro ?_ fun _ => ?_) | (refine Hold.intro fun _ => ?_) | (refine And.intro ?_ ?_))
      refine ⟨⟨2, by omega, fun _ => rfl, fun _ => rfl⟩, tle_chain rfl ?_, HLe.refl _, by simp⟩
      simp [okAll, okv]
    · have h' : (b = 0) = False := eq_false h
      simp -dsimp []
      repeat' (first | omega | (simp -dsimp [E109, ri, cellp, ints, w1, h']) | (refine Also.intro ?_ fun _ => ?_) | (refine Hold.intro fun _ => ?_) | (refine And.intro ?_ ?_))
  · have ha := h1 (by omega)
    have hb := h2 (by omega)
    subst ha hb
    simp -dsimp []
    repeat' (first | omega | (simp -dsimp [E109, ri, cellp, ints, *]) | (refine Also.intro ?_ fun _ => ?_) | (refine Hold.intro fun _ => ?_) | (refine And.intro ?_ ?_))
theorem ok109 : FnOK Tryz.prog 109 (.pure orS) := pure_fn (E := E109) rfl LOK.nil (ok := []) (fn := Tryz.f109) (by kernel_rfl) (by kernel_rfl) (by kernel_rfl) (by kernel_rfl) rfl (fun _ _ => by simp) b109
end Go.Sx.Tab
end
section
/- Tables: comparing values, the value at a point. No conditions. -/
set_option linter.unusedSimpArgs false
set_option linter.unusedSectionVars false
set_option maxRecDepth 100000
set_option maxHeartbeats 4000000
namespace Go.Sx.Tab
open Go.Proofs Go.Sx
attribute [local irreducible] HLe
attribute [local simp] hps_app
theorem mulBd {x y A B : Int} (h1 : 0 ≤ x) (h2 : x ≤ A) (h3 : 0 ≤ y) (h4 : y ≤ B) : 0 ≤ x * y ∧ x * y ≤ A * B :=
  ⟨Int.mul_nonneg h1 h3, Int.mul_le_mul h2 h4 h3 (by omega)⟩
structure Va (v : Int × Int) : Prop where
  n1 : -1000000000000000 ≤ v.1
  n2 : v.1 ≤ 1000000000000000
  w1 : 0 < v.2
  w2 : v.2 ≤ 100000000
def cmpV (v w : Int × Int) : Int := if v.1 / v.2 - w.1 / w.2 = 0 then (v.1 - v.1 / v.2 * v.2) * w.2 - (w.1 - w.1 / w.2 * w.2) * v.2 else v.1 / v.2 - w.1 / w.2
theorem va_fl {v : Int × Int} (h : Va v) : -1000000000000000 ≤ v.1 / v.2 ∧ v.1 / v.2 ≤ 1000000000000000 ∧ 0 ≤ v.1 - v.1 / v.2 * v.2 ∧ v.1 - v.1 / v.2 * v.2 < v.2 := by
  obtain ⟨h1, h2, h3, h4⟩ := h
  have e1 := Int.ediv_mul_le v.1 (show v.2 ≠ 0 by omega)
  have e2 := Int.lt_ediv_add_one_mul_self v.1 h3
  rw [Int.add_mul, Int.one_mul] at e2
  refine ⟨?_, ?_, by omega, by omega⟩
  · rw [Int.le_ediv_iff_mul_le h3]
    have := Int.mul_le_mul_of_nonpos_left (a := -1000000000000000) (b := v.2) (c := 1) (by omega) (by omega)
    omega
  · by_cases h0 : 0 ≤ v.1
    · have := Int.ediv_le_self v.2 h0; omega
    · have : v.1 / v.2 ≤ 0 := by
        have := Int.ediv_le_ediv h3 (show v.1 ≤ 0 by omega)
        simpa using this
      omega
@[simp] def vvE (d : (Int × Int) × (Int × Int)) : List V := [.agg [.int .i64 d.1.1, .int .i64 d.1.2], .agg [.int .i64 d.2.1, .int .i64 d.2.2]]
theorem vvE_inj (a b : (Int × Int) × (Int × Int)) (h : vvE a = vvE b) : a = b := by
  obtain ⟨⟨a1, a2⟩, a3, a4⟩ := a; obtain ⟨⟨b1, b2⟩, b3, b4⟩ := b
  simp only [vvE, List.cons.injEq, V.agg.injEq, V.int.injEq, true_and, and_true] at h
  rw [h.1.1, h.1.2, h.2.1, h.2.2]
theorem vvE_dec (a b c d : Int) : decC vvE [.agg [.int .i64 a, .int .i64 b], .agg [.int .i64 c, .int .i64 d]] = ((a, b), (c, d)) := decC_eq vvE_inj ((a, b), (c, d))
noncomputable abbrev cmpS : PSpec := mkP vvE (fun d => Va d.1 ∧ Va d.2) fun d => .int .i64 (cmpV d.1 d.2)
theorem Va.fl {v : Int × Int} (h : Va v) : FlP v := ⟨⟨by have := h.n1; omega, by have := h.n2; omega⟩, h.w1⟩
noncomputable abbrev E69 : Env := { P := Tryz.prog, fn := tbl [(37, .pure floS), (109, .pure orS)], own := [], key := 6900, nt := 43 }
theorem b69 : PureBody E69 [] Tryz.f69 cmpS := by
  refine pb ?_
  rintro ⟨⟨n, d⟩, ⟨m, e⟩⟩ ⟨hv, hw⟩
  simp only at hv hw
  have f1 := hv.fl
  have f2 := hw.fl
  obtain ⟨a1, a2, a3, a4⟩ := va_fl hv
  obtain ⟨b1, b2, b3, b4⟩ := va_fl hw
  have hc : cmpV (n, d) (m, e) = if n / d - m / e = 0 then (n - n / d * d) * e - (m - m / e * e) * d else n / d - m / e := rfl
  obtain ⟨v1, v2, v3, v4⟩ := hv
  obtain ⟨w1, w2, w3, w4⟩ := hw
  simp only at *
  generalize hq : n / d = q at *
  generalize hp : m / e = p at *
  obtain ⟨c1, c2⟩ := mulBd a3 (show n - q * d ≤ 100000000 by omega) (show 0 ≤ e by omega) w4
  obtain ⟨d1, d2⟩ := mulBd b3 (show m - p * e ≤ 100000000 by omega) (show 0 ≤ d by omega) v4
  have g0 : IntKind.wrap .i64 (q - p) = q - p := wrap_id (by omega) (by omega)
  have g1 : IntKind.wrap .i64 (q * d) = q * d := wrap_id (by omega) (by omega)
  have g2 : IntKind.wrap .i64 (p * e) = p * e := wrap_id (by omega) (by omega)
  generalize hx : q * d = x at *
  generalize hy : p * e = y at *
  have g3 : IntKind.wrap .i64 (n - x) = n - x := wrap_id (by omega) (by omega)
  have g4 : IntKind.wrap .i64 (m - y) = m - y := wrap_id (by omega) (by omega)
  have g5 : IntKind.wrap .i64 ((n - x) * e) = (n - x) * e := wrap_id (by omega) (by omega)
  have g6 : IntKind.wrap .i64 ((m - y) * d) = (m - y) * d := wrap_id (by omega) (by omega)
  generalize hs : (n - x) * e = s at *
  generalize ht : (m - y) * d = t at *
  have g7 : IntKind.wrap .i64 (s - t) = s - t := wrap_id (by omega) (by omega)
  simp -dsimp [Tryz.f69, E69]
  repeat' (first | omega | (simp -dsimp [E69, ri, cellp, ints, f1, f2, i2E_dec, twE_dec, hq, hp, hx, hy, g0, g1, g2, g3, g4, hs, ht, g5, g6, g7, hc]) | (refine Also.intro ?_ fun _ => ?_) | (refine Hold.intro fun _ => ?_) | (refine And.intro ?_ ?_))
theorem ok69 : FnOK Tryz.prog 69 (.pure cmpS) := pure_fn (E := E69) rfl (.cons ok37 (.cons ok109 .nil)) (ok := []) (fn := Tryz.f69) (by kernel_rfl) (by kernel_rfl) (by kernel_rfl) (by kernel_rfl) rfl (fun _ _ => by simp) b69
end Go.Sx.Tab
end
