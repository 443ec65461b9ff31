/- A part of a proof; no conditions. -/
import Derived.Test.YtnpdjaikmdagmaaP17
import Derived.Test.YtnpdjaikmdagmaaP15
import Derived.Test.YtnpdjaikmdagmaaP16
set_option linter.unusedSimpArgs false
set_option linter.unusedVariables false
set_option linter.unusedSectionVars false
section
/- Crew: the first balanced seating. No conditions. -/
set_option linter.unusedSimpArgs false
set_option linter.unusedSectionVars false
set_option maxRecDepth 100000
set_option maxHeartbeats 2000000
namespace Go.Sx
open Go.Proofs
attribute [local irreducible] HLe

def siK (w : List Int) : Blk := { z := 1, els := w.map ri, ty := 3 }
def siA : Nat → List Int → Site
  | 0, _ => { base := 0, blks := [] }
  | 1, w => { base := 0, blks := [siK w] }
  | _ + 2, _ => { base := 1, blks := [] }
def siB : Nat → List Int → Site
  | 0, _ => { base := 0, blks := [] }
  | 1, _ => { base := 0, blks := [] }
  | j + 2, w => { base := j, blks := [siK w] }
def siC : Nat → List Int → V
  | 0, _ => .nil
  | 1, w => .bsl 4637 0 w.length
  | j + 2, w => .bsl 4642 j w.length
def siF : Nat → Bool
  | 0 => true
  | _ + 1 => false
def siCap : List V := [.bptr 2109 0 1 0 0, .bptr 2104 0 1 0 0, .bptr 2103 0 1 0 0, .bptr 2105 0 1 0 0, .bptr 2110 0 1 0 0]
abbrev SiD := Ca × List Gu × Sp × SS
def siS3 (c : Ca) : Site := { base := 0, blks := [{ z := 6, els := [[.int .i64 c.emp, .int .i64 c.arm, .sl 2 (c.st.map Se.row), .int .i64 c.farm, .int .i64 c.low, .int .i64 c.high]], ty := 49 }] }
def siS4 (l : List Gu) : Site := { base := 0, blks := [{ z := 1, els := [[.sl 4 (l.map Gu.row)]], ty := 22 }] }
def siS5 (f : Sp) : Site := { base := 0, blks := [{ z := 2, els := [[.int .i64 f.lo, .int .i64 f.hi]], ty := 51 }] }
def siS9 (s : SS) : Site := { base := 0, blks := [{ z := 1, els := [[siC s.m s.w]], ty := 24, cl := siF s.m }] }
def siS10 : Site := { base := 0, blks := [{ z := 1, els := [[.fn 46 siCap]], ty := 23, cl := false }] }
def siL (d : SiD) : List (Nat × Site) := [(2103, siS3 d.1), (2104, siS4 d.2.1), (2105, siS5 d.2.2.1), (2109, siS9 d.2.2.2), (2110, siS10), (4637, siA d.2.2.2.m d.2.2.2.w), (4642, siB d.2.2.2.m d.2.2.2.w)]
theorem siL_keys (d : SiD) : (siL d).map (·.1) = [2103, 2104, 2105, 2109, 2110, 4637, 4642] := rfl
theorem ss_inj {s s' : SS} (h : s.Ok) (h' : s'.Ok) (a : siA s.m s.w = siA s'.m s'.w) (b : siB s.m s.w = siB s'.m s'.w) : s = s' := by
  obtain ⟨m, w⟩ := s; obtain ⟨m', w'⟩ := s'
  unfold SS.Ok at h h'
  dsimp only at *
  match m, m' with
  | 0, 0 => rw [h rfl, h' rfl]
  | 0, 1 => simp [siA] at a
  | 0, j + 2 => simp [siB] at b
  | 1, 0 => simp [siA] at a
  | 1, 1 => simp [siA, siK] at a; rw [map_ri_inj a]
  | 1, j + 2 => simp [siA] at a
  | j + 2, 0 => simp [siB] at b
  | j + 2, 1 => simp [siA] at a
  | j + 2, i + 2 => simp [siB, siK] at b; rw [b.1, map_ri_inj b.2]
theorem si_inj (d d' : SiD) (h : Hp) (h1 : Mt siL [2103, 2104, 2105, 2109, 2110, 4637, 4642] d h ∧ d.2.2.2.Ok) (h2 : Mt siL [2103, 2104, 2105, 2109, 2110, 4637, 4642] d' h ∧ d'.2.2.2.Ok) : d = d' := by
  obtain ⟨c, l, f, s⟩ := d; obtain ⟨c', l', f', s'⟩ := d'
  have e := fun k (hk : k ∈ [2103, 2104, 2105, 2109, 2110, 4637, 4642]) => (h1.1 k hk).symm.trans (h2.1 k hk)
  have e1 : (siS3 c).blks = (siS3 c').blks := congrArg Site.blks (e 2103 (by simp))
  have e2 : (siS4 l).blks = (siS4 l').blks := congrArg Site.blks (e 2104 (by simp))
  have e3 : (siS5 f).blks = (siS5 f').blks := congrArg Site.blks (e 2105 (by simp))
  have e4 : siA s.m s.w = siA s'.m s'.w := e 4637 (by simp)
  have e5 : siB s.m s.w = siB s'.m s'.w := e 4642 (by simp)
  simp only [siS3, siS4, siS5, List.cons.injEq, Blk.mk.injEq, V.sl.injEq, and_true, true_and] at e1 e2 e3
  have e1 := Ca.row_inj c c' (by simpa [Ca.row] using e1)
  have e2 := mapRow_inj Gu.row_inj e2
  have e3 := Sp.row_inj f f' (by simpa [Sp.row] using e3)
  have e6 : s = s' := ss_inj h1.2 h2.2 e4 e5
  rw [e1, e2, e3, e6]
structure SitP (M : Nat) (d : SiD) : Prop where
  f : LFit d.1 d.2.1 d.2.2.1
  sk : ∀ i, i < d.2.2.2.w.length → seatOk d.1 d.2.1 d.2.2.2.w i = true
  le : d.2.2.2.w.length ≤ d.2.1.length
  lt : d.2.1.length - d.2.2.2.w.length < M
noncomputable abbrev sitS (M : Nat) : HSpec := mkH (fun _ : SiD => siCap) (fun d h => Mt siL [2103, 2104, 2105, 2109, 2110, 4637, 4642] d h ∧ d.2.2.2.Ok) (SitP M)
  (fun d => .bool (sitX d.1 d.2.1 d.2.2.1 (d.2.1.length - d.2.2.2.w.length) d.2.2.2).1) (fun d h => Ob siL (d.1, d.2.1, d.2.2.1, (sitX d.1 d.2.1 d.2.2.1 (d.2.1.length - d.2.2.2.w.length) d.2.2.2).2) h)
theorem sit_gen {M : Nat} {c : Ca} {l : List Gu} {f : Sp} {s : SS} (ho : s.Ok) {m : Nat} (hm : l.length - s.w.length = m) {h : Hp} (h1 : h 2103 = siS3 c) (h2 : h 2104 = siS4 l) (h3 : h 2105 = siS5 f) (h4 : h 2109 = siS9 s) (h5 : h 2110 = siS10) (h6 : h 4637 = siA s.m s.w) (h7 : h 4642 = siB s.m s.w) :
    (sitS M).go [.bptr 2109 0 1 0 0, .bptr 2104 0 1 0 0, .bptr 2103 0 1 0 0, .bptr 2105 0 1 0 0, .bptr 2110 0 1 0 0] h = ⟨SitP M (c, l, f, s), .bool (sitX c l f m s).1, hps (siL (c, l, f, (sitX c l f m s).2)) h⟩ := by
  subst hm
  refine mkH_at (enc := fun _ : SiD => siCap) (fun d d' h _ => si_inj d d' h) (d := (c, l, f, s)) ⟨fun k hk => ?_, ho⟩
  simp only [List.mem_cons, List.not_mem_nil, or_false] at hk
  rcases hk with rfl | rfl | rfl | rfl | rfl | rfl | rfl
  · exact h1
  · exact h2
  · exact h3
  · exact h4
  · exact h5
  · exact h6
  · exact h7
theorem pfit_sit {c : Ca} {l : List Gu} {f : Sp} {w : List Int} (hL : LFit c l f) (hk : ∀ i, i < w.length → seatOk c l w i = true) (hn : w.length = l.length) : PFit (c, l, w, f) :=
  ⟨hL, right_ok hn fun j hj => hk j (by rw [hn]; exact hj)⟩
noncomputable abbrev E46 (M : Nat) : Env := { P := Try.prog, fn := tbl [(47, .pure balS), (48, .pure sitsS), (46, .heap (sitS M))], own := [42], key := 4600, nt := 44 }
theorem b46 (M : Nat) : HeapBody (E46 M) [] Try.f46 (sitS (M + 1)) := by
  intro args h hc
  obtain ⟨⟨c, l, f, s⟩, rfl, ⟨hM, hso⟩, ⟨hL, hsk, hle, hlt⟩, hgo⟩ := mkH_inv hc
  rw [hgo]
  clear hgo hc
  have hM : h = Ob siL (c, l, f, s) h := (ob_mt siL_keys).1 hM
  simp only at hL hsk hle hlt hso
  dsimp only
  rw [hM, Ob, Ob, hps_app]
  generalize h = h0 at *
  clear hM
  have hn8 : l.length ≤ 8 := by have := hL.n; have := hL.cf.n; omega
  have hs8 := hL.cf.n
  obtain ⟨sm, w⟩ := s
  simp only at hsk hle hlt
  by_cases hfull : w.length = l.length
  · have hx : sitX c l f (l.length - w.length) ⟨sm, w⟩ = (balB c l f w, ⟨sm, w⟩) := by rw [hfull, Nat.sub_self]; rfl
    rw [hx]
    have hP := pfit_sit hL hsk hfull
    have hfi : ((w.length : Int) = l.length) = True := eq_true (by omega)
    have hfi2 : ((l.length : Int) = w.length) = True := eq_true (by omega)
    have hsm : sm = 0 ∨ sm = 1 ∨ ∃ j, sm = j + 2 := by
      match sm with
      | 0 => exact .inl rfl
      | 1 => exact .inr (.inl rfl)
      | j + 2 => exact .inr (.inr ⟨j, rfl⟩)
    rcases hsm with rfl | rfl | ⟨j, rfl⟩
    · have hw : w = [] := hso rfl
      subst hw
      have hl0 : l = [] := List.eq_nil_of_length_eq_zero (by simpa using hfull.symm)
      subst hl0
      have hdec := pcE_dec c [] [] f
      simp only [List.map_nil] at hdec
      simp -dsimp [Try.f46, E46, Ob, siL, siS3, siS4, siS5, siS9, siS10, siA, siB, siC, siF, siK, siCap, hps_app, List.cons_append, List.nil_append]
      repeat' (first | omega | (simp -dsimp [E46, ri, cellp, ints, Ob, siL, siS3, siS4, siS5, siS9, siS10, siA, siB, siC, siF, siK, siCap, hps_app, List.cons_append, List.nil_append, hfi, hfi2, hfull, hdec, nf2_nil, nf2_sl, hP, Ca.row, Gu.row, Sp.row]) | (refine Also.intro ?_ fun _ => ?_) | (refine Hold.intro fun _ => ?_) | (refine And.intro ?_ ?_))
      exact (by (try simp -dsimp only [hpush_noH, hpush_hps, hps_over]); refine hle_hpsb ?_; simp -dsimp [allK, ]; repeat' (first | (refine And.intro ?_ ?_) | (refine sLe.same ?_ ?_ <;> (simp; done)) | (refine sLe.clear ?_ ?_ <;> (first | (simp; done) | (simp; omega))) | (refine sLe.drop 1 ?_ ?_ ?_ <;> (simp; done))))
    · have hdec := pcE_dec c l w f
      simp -dsimp [Try.f46, E46, Ob, siL, siS3, siS4, siS5, siS9, siS10, siA, siB, siC, siF, siK, siCap, hps_app, List.cons_append, List.nil_append]
      repeat' (first | omega | (simp -dsimp [E46, ri, cellp, ints, Ob, siL, siS3, siS4, siS5, siS9, siS10, siA, siB, siC, siF, siK, siCap, hps_app, List.cons_append, List.nil_append, hfi, hfi2, hfull, hdec, nf2_nil, nf2_sl, hP, Ca.row, Gu.row, Sp.row]) | (refine Also.intro ?_ fun _ => ?_) | (refine Hold.intro fun _ => ?_) | (refine And.intro ?_ ?_))
      exact (by (try simp -dsimp only [hpush_noH, hpush_hps, hps_over]); refine hle_hpsb ?_; simp -dsimp [allK, ]; repeat' (first | (refine And.intro ?_ ?_) | (refine sLe.same ?_ ?_ <;> (simp; done)) | (refine sLe.clear ?_ ?_ <;> (first | (simp; done) | (simp; omega))) | (refine sLe.drop 1 ?_ ?_ ?_ <;> (simp; done))))
    · have hdec := pcE_dec c l w f
      simp -dsimp [Try.f46, E46, Ob, siL, siS3, siS4, siS5, siS9, siS10, siA, siB, siC, siF, siK, siCap, hps_app, List.cons_append, List.nil_append]
      repeat' (first | omega | (simp -dsimp [E46, ri, cellp, ints, Ob, siL, siS3, siS4, siS5, siS9, siS10, siA, siB, siC, siF, siK, siCap, hps_app, List.cons_append, List.nil_append, hfi, hfi2, hfull, hdec, nf2_nil, nf2_sl, hP, Ca.row, Gu.row, Sp.row]) | (refine Also.intro ?_ fun _ => ?_) | (refine Hold.intro fun _ => ?_) | (refine And.intro ?_ ?_))
      exact (by (try simp -dsimp only [hpush_noH, hpush_hps, hps_over]); refine hle_hpsb ?_; simp -dsimp [allK, ]; repeat' (first | (refine And.intro ?_ ?_) | (refine sLe.same ?_ ?_ <;> (simp; done)) | (refine sLe.clear ?_ ?_ <;> (first | (simp; done) | (simp; omega))) | (refine sLe.drop 1 ?_ ?_ ?_ <;> (simp; done))))
  have hlt' : w.length < l.length := by omega
  have hnf : ((w.length : Int) = l.length) = False := eq_false (by omega)
  obtain ⟨m, hm⟩ : ∃ m, l.length - w.length = m + 1 := ⟨l.length - w.length - 1, by omega⟩
  obtain ⟨g, hg⟩ : ∃ g, l[w.length]? = some g := ⟨_, List.getElem?_eq_getElem hlt'⟩
  have hg' : l[w.length] = g := (List.getElem?_eq_some_iff.1 hg).2
  have hga : guAt l w.length = g := by simp [guAt, List.getD, hg]
  have hx : sitX c l f (l.length - w.length) ⟨sm, w⟩ = lpX (sitX c l f m) c g w.length ⟨sm, w⟩ c.st.length := by rw [hm, ← hga]; rfl
  dsimp only
  rw [hx]
  have hinv := fun k => sitX_lp c l f m (sitX_ok c l f m) ⟨sm, w⟩ hso k
  dsimp only at hinv
  rw [hga] at hinv
  clear hx
  have hlen : (siC sm w).len = some w.length := by
    match sm, hso with
    | 0, h => rw [show w = [] from h rfl]; rfl
    | 1, _ => rfl
    | j + 2, _ => rfl
  simp -dsimp [Try.f46, E46, Ob, siL, siS3, siS4, siS5, siS9, siS10, siCap, hps_app, List.cons_append, List.nil_append]
  repeat' (first | omega | (simp -dsimp [E46, ri, cellp, ints, Ob, siL, siS3, siS4, siS5, siS9, siS10, siCap, hps_app, List.cons_append, List.nil_append, hlen, hnf, Ca.row, Gu.row, Sp.row]) | (refine Also.intro ?_ fun _ => ?_) | (refine Hold.intro fun _ => ?_) | (refine And.intro ?_ ?_))
  refine awp_loop [23, 24, 7, 25, 26, 27, 28, 29, 30, 31, 32, 33, 34, 35, 36, 37, 38, 39, 5, 40, 41, 42, 43, 22] (fun k : { k : Nat // k ≤ c.st.length ∧ (lpX (sitX c l f m) c g w.length ⟨sm, w⟩ k).1 = false } => [(22, (true, .int .i64 k.1))]) (fun k => hps (siL (c, l, f, (lpX (sitX c l f m) c g w.length ⟨sm, w⟩ k.1).2)) h0) (fun k => c.st.length - k.1) ⟨0, by omega, rfl⟩ ?_ ?_ ?_
  · simp [okAll, okv]
  · exact (by (try simp -dsimp only [hpush_noH, hpush_hps, hps_over]); refine hle_hpsb ?_; simp -dsimp [allK, siL, siS3, siS4, siS5, siS9, siS10, siCap, lpX]; repeat' (first | (refine And.intro ?_ ?_) | (refine sLe.same ?_ ?_ <;> (simp; done)) | (refine sLe.clear ?_ ?_ <;> (first | (simp; done) | (simp; omega))) | (refine sLe.drop 1 ?_ ?_ ?_ <;> (simp; done))))
  rintro ⟨k, hk, hk0⟩
  dsimp only
  obtain ⟨i1, i2, i3, i4⟩ := hinv k
  replace i4 := (i4 hk0).2
  by_cases hk1 : k < c.st.length
  case neg =>
    have hkn : ¬ (k : Int) < c.st.length := by omega
    have hke : k = c.st.length := by omega
    subst hke
    rw [hk0]
    simp -dsimp [hkn]
    repeat' (first | omega | (simp -dsimp [E46, ri, cellp, ints, hkn]) | (refine Also.intro ?_ fun _ => ?_) | (refine Hold.intro fun _ => ?_) | (refine And.intro ?_ ?_))
    exact (by (try simp -dsimp only [hpush_noH, hpush_hps, hps_over]); refine hle_hpsb ?_; simp -dsimp [allK, siL, siS3, siS4, siS5, siS9, siS10, siCap]; repeat' (first | (refine And.intro ?_ ?_) | (refine sLe.same ?_ ?_ <;> (simp; done)) | (refine sLe.clear ?_ ?_ <;> (first | (simp; done) | (simp; omega))) | (refine sLe.drop 1 ?_ ?_ ?_ <;> (simp; done))))
  have hki : (k : Int) < c.st.length := by omega
  have wk : IntKind.wrap .i64 ((k : Int) + 1) = (k + 1 : Nat) := wrap_id (by omega) (by omega)
  have hS := lpX_succ hk0
  generalize lpX (sitX c l f m) c g w.length ⟨sm, w⟩ k = R at *
  obtain ⟨b, tm, tw⟩ := R
  dsimp only at hk0 i1 i2 i4 hS
  subst hk0 i4
  have hwn8 : tw.length ≤ 8 := by omega
  obtain ⟨v, hv⟩ : ∃ v, c.st[k]? = some v := ⟨_, List.getElem?_eq_getElem hk1⟩
  have hlti : (tw.length : Int) < l.length := by omega
  have htm : tm = 0 ∨ tm = 1 ∨ ∃ j, tm = j + 2 := by
    match tm with
    | 0 => exact .inl rfl
    | 1 => exact .inr (.inl rfl)
    | j + 2 => exact .inr (.inr ⟨j, rfl⟩)
  have hSP : SiP (c, g, tw, (k : Int)) := ⟨by simp only; omega, by simp only; omega⟩
  cases hsb : sitsB c g tw (k : Int)
  · rw [if_neg (by rw [hsb]; decide)] at hS
    rcases htm with rfl | rfl | ⟨j, rfl⟩
    · have hw : tw = [] := i1 rfl
      subst hw
      simp only [List.length_nil] at hg hg' hS
      have hlt0 : (0 : Int) < l.length := by omega
      have hlt00 : 0 < l.length := by omega
      have hne : (l = []) = False := eq_false (by rintro rfl; simp at hlt00)
      have hdec := siE_dec c g [] (k : Int)
      simp only [List.map_nil] at hdec
      simp -dsimp [hki]
      repeat' (first | omega | (simp -dsimp [E46, ri, cellp, ints, Ob, siL, siS3, siS4, siS5, siS9, siS10, siA, siB, siC, siF, siK, siCap, hps_app, List.cons_append, List.nil_append, hki, hk1, hlt0, hne, hlti, hlt', hg, hg', hv, wk, hdec, nf2_nil, nf2_sl, hSP, hsb, hwn8, Ca.row, Gu.row, Sp.row]) | (refine Also.intro ?_ fun _ => ?_) | (refine Hold.intro fun _ => ?_) | (refine And.intro ?_ ?_))
      refine ⟨k + 1, tle_chain rfl ?_, ?_, ⟨by omega, by rw [hS]⟩, by omega⟩
      · simp [okAll, okv]
      · rw [hS]; exact (by (try simp -dsimp only [hpush_noH, hpush_hps, hps_over]); refine hle_hpsb ?_; simp -dsimp [allK, Ob, siL, siS3, siS4, siS5, siS9, siS10, siA, siB, siC, siF, siK, siCap, hps_app, List.cons_append, List.nil_append]; repeat' (first | (refine And.intro ?_ ?_) | (refine sLe.same ?_ ?_ <;> (simp; done)) | (refine sLe.clear ?_ ?_ <;> (first | (simp; done) | (simp; omega))) | (refine sLe.drop 1 ?_ ?_ ?_ <;> (simp; done))))
    · have hdec := siE_dec c g tw (k : Int)
      simp -dsimp [hki]
      repeat' (first | omega | (simp -dsimp [E46, ri, cellp, ints, Ob, siL, siS3, siS4, siS5, siS9, siS10, siA, siB, siC, siF, siK, siCap, hps_app, List.cons_append, List.nil_append, hki, hk1, hlti, hlt', hg, hg', hv, wk, hdec, nf2_nil, nf2_sl, hSP, hsb, hwn8, Ca.row, Gu.row, Sp.row]) | (refine Also.intro ?_ fun _ => ?_) | (refine Hold.intro fun _ => ?_) | (refine And.intro ?_ ?_))
      refine ⟨k + 1, tle_chain rfl ?_, ?_, ⟨by omega, by rw [hS]⟩, by omega⟩
      · simp [okAll, okv]
      · rw [hS]; exact (by (try simp -dsimp only [hpush_noH, hpush_hps, hps_over]); refine hle_hpsb ?_; simp -dsimp [allK, Ob, siL, siS3, siS4, siS5, siS9, siS10, siA, siB, siC, siF, siK, siCap, hps_app, List.cons_append, List.nil_append]; repeat' (first | (refine And.intro ?_ ?_) | (refine sLe.same ?_ ?_ <;> (simp; done)) | (refine sLe.clear ?_ ?_ <;> (first | (simp; done) | (simp; omega))) | (refine sLe.drop 1 ?_ ?_ ?_ <;> (simp; done))))
    · have hdec := siE_dec c g tw (k : Int)
      simp -dsimp [hki]
      repeat' (first | omega | (simp -dsimp [E46, ri, cellp, ints, Ob, siL, siS3, siS4, siS5, siS9, siS10, siA, siB, siC, siF, siK, siCap, hps_app, List.cons_append, List.nil_append, hki, hk1, hlti, hlt', hg, hg', hv, wk, hdec, nf2_nil, nf2_sl, hSP, hsb, hwn8, Ca.row, Gu.row, Sp.row]) | (refine Also.intro ?_ fun _ => ?_) | (refine Hold.intro fun _ => ?_) | (refine And.intro ?_ ?_))
      refine ⟨k + 1, tle_chain rfl ?_, ?_, ⟨by omega, by rw [hS]⟩, by omega⟩
      · simp [okAll, okv]
      · rw [hS]; exact (by (try simp -dsimp only [hpush_noH, hpush_hps, hps_over]); refine hle_hpsb ?_; simp -dsimp [allK, Ob, siL, siS3, siS4, siS5, siS9, siS10, siA, siB, siC, siF, siK, siCap, hps_app, List.cons_append, List.nil_append]; repeat' (first | (refine And.intro ?_ ?_) | (refine sLe.same ?_ ?_ <;> (simp; done)) | (refine sLe.clear ?_ ?_ <;> (first | (simp; done) | (simp; omega))) | (refine sLe.drop 1 ?_ ?_ ?_ <;> (simp; done))))
  rw [if_pos hsb] at hS
  have ho' := SS.Ok.add ⟨tm, tw⟩ k
  have hsk' : ∀ i, i < (SS.add ⟨tm, tw⟩ k).w.length → seatOk c l (SS.add ⟨tm, tw⟩ k).w i = true := by
    intro i hi
    simp only [SS.add, List.length_append, List.length_singleton] at hi
    simp only [SS.add]
    by_cases h : i < tw.length
    · rw [seatOk_snoc h]; exact hsk i h
    · have : i = tw.length := by omega
      subst this
      unfold seatOk
      rw [List.take_left' rfl, hga]
      simpa [List.getD] using hsb
  have hle' : (SS.add ⟨tm, tw⟩ k).w.length ≤ l.length := by simp [SS.add]; omega
  have hm' : l.length - (SS.add ⟨tm, tw⟩ k).w.length = m := by rw [show (SS.add ⟨tm, tw⟩ k).w.length = tw.length + 1 by simp [SS.add], ← Nat.sub_sub, hm]; rfl
  have hSt : SitP M (c, l, f, SS.add ⟨tm, tw⟩ k) := ⟨hL, hsk', hle', by simp only [hm']; omega⟩
  have hX := sitX_ok c l f m (SS.add ⟨tm, tw⟩ k) ho'
  have hgo := fun h => sit_gen (M := M) (c := c) (l := l) (f := f) ho' hm' (h := h)
  have hm1 := (SS.add_m ⟨tm, tw⟩ k).2
  obtain ⟨x1, x2, x3, x4⟩ := hX
  generalize sitX c l f m (SS.add ⟨tm, tw⟩ k) = R at *
  obtain ⟨b2, m2, w2⟩ := R
  dsimp only at x1 x2 x3 x4 hgo hS
  have hgo2 := fun h h1 h2 h3 h4 h5 h6 h7 => (hgo h h1 h2 h3 h4 h5 h6 h7).trans (by rw [eq_true hSt])
  clear hgo hSt hsk' ho' hm' hle'
  cases b2 with
  | true =>
    rw [if_pos rfl] at hS
    obtain ⟨q, hq⟩ : ∃ q, c.st.length = (k + 1) + q := ⟨c.st.length - (k + 1), by omega⟩
    have hend : lpX (sitX c l f m) c g tw.length ⟨sm, tw⟩ c.st.length = (true, ⟨m2, w2⟩) := by rw [hq, lpX_stop _ _ _ _ _ (by rw [hS]), hS]
    rw [hend]
    clear hq
    rcases htm with rfl | rfl | ⟨j, rfl⟩
    · have hw : tw = [] := i1 rfl
      subst hw
      simp only [List.length_nil] at hg hg' hS
      have hlt0 : (0 : Int) < l.length := by omega
      have hlt00 : 0 < l.length := by omega
      have hne : (l = []) = False := eq_false (by rintro rfl; simp at hlt00)
      have hdec := siE_dec c g [] (k : Int)
      simp only [List.map_nil] at hdec
      simp -dsimp [SS.add, Ob, siL, siS3, siS4, siS5, siS9, siS10, siA, siB, siC, siF, siK, siCap, hps_app, List.cons_append, List.nil_append, ri, Ca.row, Gu.row, Sp.row] at hgo2
      simp -dsimp [hki]
      repeat' (first | omega | (simp -dsimp [E46, ri, cellp, ints, Ob, siL, siS3, siS4, siS5, siS9, siS10, siA, siB, siC, siF, siK, siCap, hps_app, List.cons_append, List.nil_append, hki, hk1, hlt0, hne, hlti, hlt', hg, hg', hv, wk, hdec, nf2_nil, nf2_sl, hSP, hsb, hwn8, hgo2, Ca.row, Gu.row, Sp.row]) | (refine Also.intro ?_ fun _ => ?_) | (refine Hold.intro fun _ => ?_) | (refine And.intro ?_ ?_))
      exact (by (try simp -dsimp only [hpush_noH, hpush_hps, hps_over]); refine hle_hpsb ?_; simp -dsimp [allK, Ob, siL, siS3, siS4, siS5, siS9, siS10, siA, siB, siC, siF, siK, siCap, hps_app, List.cons_append, List.nil_append]; repeat' (first | (refine And.intro ?_ ?_) | (refine sLe.same ?_ ?_ <;> (simp; done)) | (refine sLe.clear ?_ ?_ <;> (first | (simp; done) | (simp; omega))) | (refine sLe.drop 1 ?_ ?_ ?_ <;> (simp; done))))
    · have hdec := siE_dec c g tw (k : Int)
      simp -dsimp [SS.add, Ob, siL, siS3, siS4, siS5, siS9, siS10, siA, siB, siC, siF, siK, siCap, hps_app, List.cons_append, List.nil_append, ri, Ca.row, Gu.row, Sp.row] at hgo2
      simp -dsimp [hki]
      repeat' (first | omega | (simp -dsimp [E46, ri, cellp, ints, Ob, siL, siS3, siS4, siS5, siS9, siS10, siA, siB, siC, siF, siK, siCap, hps_app, List.cons_append, List.nil_append, hki, hk1, hlti, hlt', hg, hg', hv, wk, hdec, nf2_nil, nf2_sl, hSP, hsb, hwn8, hgo2, Ca.row, Gu.row, Sp.row]) | (refine Also.intro ?_ fun _ => ?_) | (refine Hold.intro fun _ => ?_) | (refine And.intro ?_ ?_))
      exact (by (try simp -dsimp only [hpush_noH, hpush_hps, hps_over]); refine hle_hpsb ?_; simp -dsimp [allK, Ob, siL, siS3, siS4, siS5, siS9, siS10, siA, siB, siC, siF, siK, siCap, hps_app, List.cons_append, List.nil_append]; repeat' (first | (refine And.intro ?_ ?_) | (refine sLe.same ?_ ?_ <;> (simp; done)) | (refine sLe.clear ?_ ?_ <;> (first | (simp; done) | (simp; omega))) | (refine sLe.drop 1 ?_ ?_ ?_ <;> (simp; done))))
    · have hdec := siE_dec c g tw (k : Int)
      simp -dsimp [SS.add, Ob, siL, siS3, siS4, siS5, siS9, siS10, siA, siB, siC, siF, siK, siCap, hps_app, List.cons_append, List.nil_append, ri, Ca.row, Gu.row, Sp.row] at hgo2
      simp -dsimp [hki]
      repeat' (first | omega | (simp -dsimp [E46, ri, cellp, ints, Ob, siL, siS3, siS4, siS5, siS9, siS10, siA, siB, siC, siF, siK, siCap, hps_app, List.cons_append, List.nil_append, hki, hk1, hlti, hlt', hg, hg', hv, wk, hdec, nf2_nil, nf2_sl, hSP, hsb, hwn8, hgo2, Ca.row, Gu.row, Sp.row]) | (refine Also.intro ?_ fun _ => ?_) | (refine Hold.intro fun _ => ?_) | (refine And.intro ?_ ?_))
      exact (by (try simp -dsimp only [hpush_noH, hpush_hps, hps_over]); refine hle_hpsb ?_; simp -dsimp [allK, Ob, siL, siS3, siS4, siS5, siS9, siS10, siA, siB, siC, siF, siK, siCap, hps_app, List.cons_append, List.nil_append]; repeat' (first | (refine And.intro ?_ ?_) | (refine sLe.same ?_ ?_ <;> (simp; done)) | (refine sLe.clear ?_ ?_ <;> (first | (simp; done) | (simp; omega))) | (refine sLe.drop 1 ?_ ?_ ?_ <;> (simp; done))))
  | false =>
    rw [if_neg (by decide)] at hS
    have hw2 := (x4 rfl).2
    clear x3 x4
    have hm2 : m2 = 1 ∨ ∃ j, m2 = j + 2 := by
      match m2, Nat.le_trans hm1 x2 with
      | 1, _ => exact .inl rfl
      | j + 2, _ => exact .inr ⟨j, rfl⟩
    have hl2 : w2.length = tw.length + 1 := by rw [hw2]; simp [SS.add]
    have ht2 : (w2.map ri).take tw.length = tw.map ri := by rw [hw2]; simp [SS.add]
    have hb2 : SS.back ⟨m2, w2⟩ tw.length = ⟨m2 + 1, tw⟩ := by rw [hw2]; simp [SS.back, SS.add]
    rw [hb2] at hS
    clear hw2 hb2 x1
    rcases hm2 with rfl | ⟨i, rfl⟩
    · rcases htm with rfl | rfl | ⟨j, rfl⟩
      · have hw : tw = [] := i1 rfl
        subst hw
        simp only [List.length_nil] at hg hg' hS
        have hlt0 : (0 : Int) < l.length := by omega
        have hlt00 : 0 < l.length := by omega
        have hne : (l = []) = False := eq_false (by rintro rfl; simp at hlt00)
        have hdec := siE_dec c g [] (k : Int)
        simp only [List.map_nil] at hdec
        simp -dsimp [SS.add, Ob, siL, siS3, siS4, siS5, siS9, siS10, siA, siB, siC, siF, siK, siCap, hps_app, List.cons_append, List.nil_append, ri, Ca.row, Gu.row, Sp.row] at hgo2
        simp -dsimp [hki]
        repeat' (first | omega | (simp -dsimp [E46, ri, cellp, ints, Ob, siL, siS3, siS4, siS5, siS9, siS10, siA, siB, siC, siF, siK, siCap, hps_app, List.cons_append, List.nil_append, hki, hk1, hlt0, hne, hlti, hlt', hg, hg', hv, wk, hdec, nf2_nil, nf2_sl, hSP, hsb, hwn8, hgo2, hl2, ht2, Ca.row, Gu.row, Sp.row]) | (refine Also.intro ?_ fun _ => ?_) | (refine Hold.intro fun _ => ?_) | (refine And.intro ?_ ?_))
        refine ⟨k + 1, tle_chain rfl ?_, ?_, ⟨by omega, by rw [hS]⟩, by omega⟩
        · simp [okAll, okv]
        · rw [hS]; exact (by (try simp -dsimp only [hpush_noH, hpush_hps, hps_over]); refine hle_hpsb ?_; simp -dsimp [allK, Ob, siL, siS3, siS4, siS5, siS9, siS10, siA, siB, siC, siF, siK, siCap, hps_app, List.cons_append, List.nil_append]; repeat' (first | (refine And.intro ?_ ?_) | (refine sLe.same ?_ ?_ <;> (simp; done)) | (refine sLe.clear ?_ ?_ <;> (first | (simp; done) | (simp; omega))) | (refine sLe.drop 1 ?_ ?_ ?_ <;> (simp; done))))
      · have hdec := siE_dec c g tw (k : Int)
        simp -dsimp [SS.add, Ob, siL, siS3, siS4, siS5, siS9, siS10, siA, siB, siC, siF, siK, siCap, hps_app, List.cons_append, List.nil_append, ri, Ca.row, Gu.row, Sp.row] at hgo2
        simp -dsimp [hki]
        repeat' (first | omega | (simp -dsimp [E46, ri, cellp, ints, Ob, siL, siS3, siS4, siS5, siS9, siS10, siA, siB, siC, siF, siK, siCap, hps_app, List.cons_append, List.nil_append, hki, hk1, hlti, hlt', hg, hg', hv, wk, hdec, nf2_nil, nf2_sl, hSP, hsb, hwn8, hgo2, hl2, ht2, Ca.row, Gu.row, Sp.row]) | (refine Also.intro ?_ fun _ => ?_) | (refine Hold.intro fun _ => ?_) | (refine And.intro ?_ ?_))
        refine ⟨k + 1, tle_chain rfl ?_, ?_, ⟨by omega, by rw [hS]⟩, by omega⟩
        · simp [okAll, okv]
        · rw [hS]; exact (by (try simp -dsimp only [hpush_noH, hpush_hps, hps_over]); refine hle_hpsb ?_; simp -dsimp [allK, Ob, siL, siS3, siS4, siS5, siS9, siS10, siA, siB, siC, siF, siK, siCap, hps_app, List.cons_append, List.nil_append]; repeat' (first | (refine And.intro ?_ ?_) | (refine sLe.same ?_ ?_ <;> (simp; done)) | (refine sLe.clear ?_ ?_ <;> (first | (simp; done) | (simp; omega))) | (refine sLe.drop 1 ?_ ?_ ?_ <;> (simp; done))))
      · have hdec := siE_dec c g tw (k : Int)
        simp -dsimp [SS.add, Ob, siL, siS3, siS4, siS5, siS9, siS10, siA, siB, siC, siF, siK, siCap, hps_app, List.cons_append, List.nil_append, ri, Ca.row, Gu.row, Sp.row] at hgo2
        simp -dsimp [hki]
        repeat' (first | omega | (simp -dsimp [E46, ri, cellp, ints, Ob, siL, siS3, siS4, siS5, siS9, siS10, siA, siB, siC, siF, siK, siCap, hps_app, List.cons_append, List.nil_append, hki, hk1, hlti, hlt', hg, hg', hv, wk, hdec, nf2_nil, nf2_sl, hSP, hsb, hwn8, hgo2, hl2, ht2, Ca.row, Gu.row, Sp.row]) | (refine Also.intro ?_ fun _ => ?_) | (refine Hold.intro fun _ => ?_) | (refine And.intro ?_ ?_))
        refine ⟨k + 1, tle_chain rfl ?_, ?_, ⟨by omega, by rw [hS]⟩, by omega⟩
        · simp [okAll, okv]
        · rw [hS]; exact (by (try simp -dsimp only [hpush_noH, hpush_hps, hps_over]); refine hle_hpsb ?_; simp -dsimp [allK, Ob, siL, siS3, siS4, siS5, siS9, siS10, siA, siB, siC, siF, siK, siCap, hps_app, List.cons_append, List.nil_append]; repeat' (first | (refine And.intro ?_ ?_) | (refine sLe.same ?_ ?_ <;> (simp; done)) | (refine sLe.clear ?_ ?_ <;> (first | (simp; done) | (simp; omega))) | (refine sLe.drop 1 ?_ ?_ ?_ <;> (simp; done))))
    · rcases htm with rfl | rfl | ⟨j, rfl⟩
      · have hw : tw = [] := i1 rfl
        subst hw
        simp only [List.length_nil] at hg hg' hS
        have hlt0 : (0 : Int) < l.length := by omega
        have hlt00 : 0 < l.length := by omega
        have hne : (l = []) = False := eq_false (by rintro rfl; simp at hlt00)
        have hdec := siE_dec c g [] (k : Int)
        simp only [List.map_nil] at hdec
        simp -dsimp [SS.add, Ob, siL, siS3, siS4, siS5, siS9, siS10, siA, siB, siC, siF, siK, siCap, hps_app, List.cons_append, List.nil_append, ri, Ca.row, Gu.row, Sp.row] at hgo2
        simp -dsimp [hki]
        repeat' (first | omega | (simp -dsimp [E46, ri, cellp, ints, Ob, siL, siS3, siS4, siS5, siS9, siS10, siA, siB, siC, siF, siK, siCap, hps_app, List.cons_append, List.nil_append, hki, hk1, hlt0, hne, hlti, hlt', hg, hg', hv, wk, hdec, nf2_nil, nf2_sl, hSP, hsb, hwn8, hgo2, hl2, ht2, Ca.row, Gu.row, Sp.row]) | (refine Also.intro ?_ fun _ => ?_) | (refine Hold.intro fun _ => ?_) | (refine And.intro ?_ ?_))
        refine ⟨k + 1, tle_chain rfl ?_, ?_, ⟨by omega, by rw [hS]⟩, by omega⟩
        · simp [okAll, okv]
        · rw [hS]; exact (by (try simp -dsimp only [hpush_noH, hpush_hps, hps_over]); refine hle_hpsb ?_; simp -dsimp [allK, Ob, siL, siS3, siS4, siS5, siS9, siS10, siA, siB, siC, siF, siK, siCap, hps_app, List.cons_append, List.nil_append]; repeat' (first | (refine And.intro ?_ ?_) | (refine sLe.same ?_ ?_ <;> (simp; done)) | (refine sLe.clear ?_ ?_ <;> (first | (simp; done) | (simp; omega))) | (refine sLe.drop 1 ?_ ?_ ?_ <;> (simp; done))))
      · have hdec := siE_dec c g tw (k : Int)
        simp -dsimp [SS.add, Ob, siL, siS3, siS4, siS5, siS9, siS10, siA, siB, siC, siF, siK, siCap, hps_app, List.cons_append, List.nil_append, ri, Ca.row, Gu.row, Sp.row] at hgo2
        simp -dsimp [hki]
        repeat' (first | omega | (simp -dsimp [E46, ri, cellp, ints, Ob, siL, siS3, siS4, siS5, siS9, siS10, siA, siB, siC, siF, siK, siCap, hps_app, List.cons_append, List.nil_append, hki, hk1, hlti, hlt', hg, hg', hv, wk, hdec, nf2_nil, nf2_sl, hSP, hsb, hwn8, hgo2, hl2, ht2, Ca.row, Gu.row, Sp.row]) | (refine Also.intro ?_ fun _ => ?_) | (refine Hold.intro fun _ => ?_) | (refine And.intro ?_ ?_))
        refine ⟨k + 1, tle_chain rfl ?_, ?_, ⟨by omega, by rw [hS]⟩, by omega⟩
        · simp [okAll, okv]
        · rw [hS]; exact (by (try simp -dsimp only [hpush_noH, hpush_hps, hps_over]); refine hle_hpsb ?_; simp -dsimp [allK, Ob, siL, siS3, siS4, siS5, siS9, siS10, siA, siB, siC, siF, siK, siCap, hps_app, List.cons_append, List.nil_append]; repeat' (first | (refine And.intro ?_ ?_) | (refine sLe.same ?_ ?_ <;> (simp; done)) | (refine sLe.clear ?_ ?_ <;> (first | (simp; done) | (simp; omega))) | (refine sLe.drop 1 ?_ ?_ ?_ <;> (simp; done))))
      · have hdec := siE_dec c g tw (k : Int)
        simp -dsimp [SS.add, Ob, siL, siS3, siS4, siS5, siS9, siS10, siA, siB, siC, siF, siK, siCap, hps_app, List.cons_append, List.nil_append, ri, Ca.row, Gu.row, Sp.row] at hgo2
        simp -dsimp [hki]
        repeat' (first | omega | (simp -dsimp [E46, ri, cellp, ints, Ob, siL, siS3, siS4, siS5, siS9, siS10, siA, siB, siC, siF, siK, siCap, hps_app, List.cons_append, List.nil_append, hki, hk1, hlti, hlt', hg, hg', hv, wk, hdec, nf2_nil, nf2_sl, hSP, hsb, hwn8, hgo2, hl2, ht2, Ca.row, Gu.row, Sp.row]) | (refine Also.intro ?_ fun _ => ?_) | (refine Hold.intro fun _ => ?_) | (refine And.intro ?_ ?_))
        refine ⟨k + 1, tle_chain rfl ?_, ?_, ⟨by omega, by rw [hS]⟩, by omega⟩
        · simp [okAll, okv]
        · rw [hS]; exact (by (try simp -dsimp only [hpush_noH, hpush_hps, hps_over]); refine hle_hpsb ?_; simp -dsimp [allK, Ob, siL, siS3, siS4, siS5, siS9, siS10, siA, siB, siC, siF, siK, siCap, hps_app, List.cons_append, List.nil_append]; repeat' (first | (refine And.intro ?_ ?_) | (refine sLe.same ?_ ?_ <;> (simp; done)) | (refine sLe.clear ?_ ?_ <;> (first | (simp; done) | (simp; omega))) | (refine sLe.drop 1 ?_ ?_ ?_ <;> (simp; done))))
theorem ok46 : ∀ M, FnOK Try.prog 46 (.heap (sitS M))
  | 0 => { call := run_call (fn := Try.f46) (by kernel_rfl) (by kernel_rfl) rfl, iter := fun S' hS => (by cases hS), pure := fun S' hS => (by cases hS), heap := fun S' hS => (by
      cases hS
      intro args h hc
      obtain ⟨_, _, _, hp, _⟩ := mkH_inv hc; exact absurd hp.lt (by omega)) }
  | M + 1 => heap_fn (E := E46 M) rfl (.cons ok47 (.cons ok48 (.cons (ok46 M) .nil))) (ok := []) (fn := Try.f46) (by kernel_rfl) (by kernel_rfl) (by kernel_rfl) (by kernel_rfl) rfl (fun args h hc => by obtain ⟨_, rfl, _⟩ := mkH_inv hc; simp [siCap]) (b46 M)
end Go.Sx
end
section
/- Crew: Sit. No conditions. -/
set_option linter.unusedSimpArgs false
set_option linter.unusedSectionVars false
set_option maxRecDepth 100000
set_option maxHeartbeats 2000000
namespace Go.Sx
open Go.Proofs
attribute [local irreducible] HLe

def sitO (c : Ca) (l : List Gu) (f : Sp) : Option (List Int) := sitF c l f l.length []
def sitE (c : Ca) (l : List Gu) (f : Sp) : List Int × Int := if lodE c l f = 0 then (match sitO c l f with | some s => (s, 0) | none => ([], 3)) else ([], lodE c l f)
noncomputable abbrev SitS : PSpec := mkP lodE3 LoP fun d => .tup [ints (sitE d.1 d.2.1 d.2.2).1, .int .i64 (sitE d.1 d.2.1 d.2.2).2]
noncomputable abbrev E21 : Env := { P := Try.prog, fn := tbl [(45, .pure lodS), (46, .heap (sitS 9))], own := [], key := 2100, nt := 23 }
theorem b21 : PureBody E21 [] Try.f21 SitS := by
  refine pb ?_
  rintro ⟨c, l, f⟩ hP
  have hP : LoP (c, l, f) := hP
  have hK : sitE c l f = if lodE c l f = 0 then (match sitO c l f with | some s => (s, 0) | none => ([], 3)) else ([], lodE c l f) := rfl
  generalize he : lodE c l f = e at hK
  by_cases h0 : e = 0
  case neg =>
    rw [if_neg h0] at hK
    have h0' : (e = 0) = False := eq_false h0
    simp -dsimp [Try.f21, E21, Ca.row, Sp.row]
    repeat' (first | omega | (simp -dsimp [E21, ri, cellp, ints, Ca.row, Sp.row, lodE3_dec, hP, he, h0', hK]) | (refine Also.intro ?_ fun _ => ?_) | (refine Hold.intro fun _ => ?_) | (refine And.intro ?_ ?_))
  subst h0
  rw [if_pos rfl] at hK
  have hL := lodE_zero he
  have hgo := fun h => sit_gen (M := 9) (c := c) (l := l) (f := f) (s := ⟨0, []⟩) (fun _ => rfl) (m := l.length) (Nat.sub_zero _) (h := h)
  have hSt : SitP 9 (c, l, f, ⟨0, []⟩) := ⟨hL, fun i hi => by simp at hi, by simp, by have := hL.n; have := hL.cf.n; simp; omega⟩
  have hgo2 := fun h h1 h2 h3 h4 h5 h6 h7 => (hgo h h1 h2 h3 h4 h5 h6 h7).trans (by rw [eq_true hSt])
  obtain ⟨x1, x2, x3, x4⟩ := sitX_ok c l f l.length ⟨0, []⟩ (fun _ => rfl)
  change _ → sitO c l f = _ at x3
  change _ → sitO c l f = _ ∧ _ at x4
  simp -dsimp [siL, siS3, siS4, siS5, siS9, siS10, siA, siB, siC, siF, siK, siCap] at hgo2
  generalize sitX c l f l.length ⟨0, []⟩ = R at *
  obtain ⟨b, m, w⟩ := R
  dsimp only at *
  cases b with
  | false =>
    have h3 := (x4 rfl).1
    rw [h3] at hK
    simp -dsimp [Try.f21, E21, Ca.row, Sp.row]
    repeat' (first | omega | (simp -dsimp [E21, ri, cellp, ints, Ca.row, Sp.row, lodE3_dec, hP, he, hgo2, hps_app, hK]) | (refine Also.intro ?_ fun _ => ?_) | (refine Hold.intro fun _ => ?_) | (refine And.intro ?_ ?_))
  | true =>
    have h3 := x3 rfl
    rw [h3] at hK
    have hm : m = 0 ∨ m = 1 ∨ ∃ j, m = j + 2 := by
      match m with
      | 0 => exact .inl rfl
      | 1 => exact .inr (.inl rfl)
      | j + 2 => exact .inr (.inr ⟨j, rfl⟩)
    rcases hm with rfl | rfl | ⟨j, rfl⟩
    · have hw : w = [] := x1 rfl
      subst hw
      simp -dsimp [Try.f21, E21, Ca.row, Sp.row]
      repeat' (first | omega | (simp -dsimp [E21, ri, cellp, ints, Ca.row, Sp.row, lodE3_dec, hP, he, hgo2, hps_app, hK]) | (refine Also.intro ?_ fun _ => ?_) | (refine Hold.intro fun _ => ?_) | (refine And.intro ?_ ?_))
    · simp -dsimp [Try.f21, E21, Ca.row, Sp.row]
      repeat' (first | omega | (simp -dsimp [E21, ri, cellp, ints, Ca.row, Sp.row, lodE3_dec, hP, he, hgo2, hps_app, hK]) | (refine Also.intro ?_ fun _ => ?_) | (refine Hold.intro fun _ => ?_) | (refine And.intro ?_ ?_))
    · simp -dsimp [Try.f21, E21, Ca.row, Sp.row]
      repeat' (first | omega | (simp -dsimp [E21, ri, cellp, ints, Ca.row, Sp.row, lodE3_dec, hP, he, hgo2, hps_app, hK]) | (refine Also.intro ?_ fun _ => ?_) | (refine Hold.intro fun _ => ?_) | (refine And.intro ?_ ?_))
theorem ok21 : FnOK Try.prog 21 (.pure SitS) := pure_fn (E := E21) rfl (.cons ok45 (.cons (ok46 9) .nil)) (ok := []) (fn := Try.f21) (by kernel_rfl) (by kernel_rfl) (by kernel_rfl) (by kernel_rfl) rfl (fun _ _ => by simp) b21
end Go.Sx
end
section
/- Crew: copies, bounds, the look at the examples. No conditions. -/
set_option linter.unusedSimpArgs false
set_option linter.unusedSectionVars false
set_option maxRecDepth 100000
set_option maxHeartbeats 2000000
namespace Go.Sx
open Go.Proofs
attribute [local irreducible] HLe

abbrev sameS : PSpec := { dom := List Int × List Int, enc := fun d => [ints d.1, ints d.2], dec := fun l => ((l.getD 0 .top).toInts, (l.getD 1 .top).toInts), pre := fun d => d.1.length ≤ 9223372036854775807 ∧ d.2.length ≤ 9223372036854775807, res := fun d => .bool (decide (d.1 = d.2)) }
noncomputable abbrev E13 : Env := { P := Try.prog, fn := tbl [], own := [], key := 1300, nt := 26 }
theorem b13 : PureBody E13 [] Try.f13 sameS := by
  refine pb ?_
  rintro ⟨a, b⟩ ⟨p1, p2⟩
  simp only at p1 p2
  by_cases hl : a.length = b.length
  case neg =>
    have hne : ¬ a = b := fun e => hl (by rw [e])
    have hl' : ¬ (a.length : Int) = b.length := by omega
    simp -dsimp [Try.f13, E13, ints, hl']
    repeat' (first | omega | (simp -dsimp [E13, ri, cellp, ints, hl', hne]) | (refine Also.intro ?_ fun _ => ?_) | (refine Hold.intro fun _ => ?_) | (refine And.intro ?_ ?_))
  have hl' : (a.length : Int) = b.length := by omega
  simp -dsimp [Try.f13, E13, ints, hl']
  refine awp_loop [11, 12, 13, 14, 17, 18, 19, 20, 21, 22, 23, 24, 25, 4, 15, 16, 5]
    (fun k : { k : Nat // k ≤ a.length ∧ ∀ i (h1 : i < a.length) (h2 : i < b.length), i < k → a[i] = b[i] } => [(5, (true, .int .i64 (k.1 : Nat)))])
    (fun k => noH) (fun k => a.length - k.1) ⟨0, by omega, fun _ _ _ h => by omega⟩ ?_ (HLe.refl _) ?_
  · simp [okAll, okv]
  rintro ⟨k, hk, he⟩
  simp only
  by_cases hk1 : k < a.length
  · have hk2 : k < b.length := by omega
    have w1 : IntKind.wrap .i64 ((k : Int) + 1) = (k + 1 : Nat) := wrap_id (by omega) (by omega)
    by_cases hx : a[k] = b[k]
    · simp -dsimp [hk1, hk2, hx, ri]
      repeat' (first | omega | (simp -dsimp [E13, ri, cellp, ints, hk1, hk2, hx, w1]) | (refine Also.intro ?_ fun _ => ?_) | (refine Hold.intro fun _ => ?_) | (refine And.intro ?_ ?_))
      refine ⟨k + 1, tle_chain rfl ?_, HLe.refl _, ⟨hk1, fun i h1 h2 hi => ?_⟩, by omega⟩
      · simp [okAll, okv]
      · by_cases e : i = k
        · subst e; exact hx
        · exact he i h1 h2 (by omega)
    · have hne : ¬ a = b := fun e => hx (by simp [e])
      simp -dsimp [hk1, hk2, hx, ri]
      repeat' (first | omega | (simp -dsimp [E13, ri, cellp, ints, hk1, hk2, hx, w1, hne]) | (refine Also.intro ?_ fun _ => ?_) | (refine Hold.intro fun _ => ?_) | (refine And.intro ?_ ?_))
  · have hkb : ¬ k < b.length := by omega
    have heq : a = b := List.ext_getElem hl fun i h1 h2 => he i h1 h2 (by omega)
    simp -dsimp [hk1, hkb]
    repeat' (first | omega | (simp -dsimp [E13, ri, cellp, ints, hk1, hkb, heq]) | (refine Also.intro ?_ fun _ => ?_) | (refine Hold.intro fun _ => ?_) | (refine And.intro ?_ ?_))
theorem ok13 : FnOK Try.prog 13 (.pure sameS) := pure_fn (E := E13) rfl LOK.nil (ok := []) (fn := Try.f13) (by kernel_rfl) (by kernel_rfl) (by kernel_rfl) (by kernel_rfl) rfl (fun _ _ => by simp) b13
/-! bounds -/
@[simp] def farE (d : Ro × List Du) : List V := [.agg d.1.row, .sl 3 (d.2.map Du.row)]
noncomputable abbrev farS : PSpec := mkP chE (fun _ => True) fun d => .bool (decide (20 < d.1.ppl.length) || decide (80 < d.2.length))
theorem dec_cast (a b : Nat) : decide ((a : Int) < b) = decide (a < b) := by simp
noncomputable abbrev E14 : Env := { P := Try.prog, fn := tbl [], own := [], key := 1400, nt := 14 }
theorem b14 : PureBody E14 [] Try.f14 farS := by
  refine pb ?_
  rintro ⟨r, l⟩ _
  simp -dsimp [Try.f14, E14, Ro.row, pplV]
  by_cases h1 : 20 < r.ppl.length
  · have h1' : ((20 : Int) < r.ppl.length) = True := eq_true (by omega)
    repeat' (first | omega | (simp -dsimp [E14, ri, cellp, ints, Ro.row, pplV, h1, h1']) | (refine Also.intro ?_ fun _ => ?_) | (refine Hold.intro fun _ => ?_) | (refine And.intro ?_ ?_))
  · have h1' : ((20 : Int) < r.ppl.length) = False := eq_false (by omega)
    by_cases h2 : 80 < l.length
    · have h2' : ((80 : Int) < l.length) = True := eq_true (by omega)
      repeat' (first | omega | (simp -dsimp [E14, ri, cellp, ints, Ro.row, pplV, h1, h1', h2, h2']) | (refine Also.intro ?_ fun _ => ?_) | (refine Hold.intro fun _ => ?_) | (refine And.intro ?_ ?_))
    · have h2' : ((80 : Int) < l.length) = False := eq_false (by omega)
      repeat' (first | omega | (simp -dsimp [E14, ri, cellp, ints, Ro.row, pplV, h1, h1', h2, h2']) | (refine Also.intro ?_ fun _ => ?_) | (refine Hold.intro fun _ => ?_) | (refine And.intro ?_ ?_))
theorem ok14 : FnOK Try.prog 14 (.pure farS) := pure_fn (E := E14) rfl LOK.nil (ok := []) (fn := Try.f14) (by kernel_rfl) (by kernel_rfl) (by kernel_rfl) (by kernel_rfl) rfl (fun _ _ => by simp) b14
@[simp] def fcE (d : Ca × List Gu) : List V := [.agg d.1.row, .sl 4 (d.2.map Gu.row)]
theorem fcE_inj (a b : Ca × List Gu) (h : fcE a = fcE b) : a = b := by
  obtain ⟨a1, a2⟩ := a; obtain ⟨b1, b2⟩ := b
  simp only [fcE, List.cons.injEq, V.agg.injEq, V.sl.injEq, true_and, and_true] at h
  rw [Ca.row_inj _ _ h.1, mapRow_inj Gu.row_inj h.2]
theorem fcE_dec (c : Ca) (l : List Gu) : decC fcE [.agg [.int .i64 c.emp, .int .i64 c.arm, .sl 2 (c.st.map Se.row), .int .i64 c.farm, .int .i64 c.low, .int .i64 c.high], .sl 4 (l.map Gu.row)] = (c, l) := decC_eq fcE_inj (c, l)
noncomputable abbrev fcS : PSpec := mkP fcE (fun _ => True) fun d => .bool (decide (12 < d.1.st.length) || decide (12 < d.2.length))
noncomputable abbrev E19 : Env := { P := Try.prog, fn := tbl [], own := [], key := 1900, nt := 14 }
theorem b19 : PureBody E19 [] Try.f19 fcS := by
  refine pb ?_
  rintro ⟨c, l⟩ _
  simp -dsimp [Try.f19, E19, Ca.row]
  by_cases h1 : 12 < c.st.length
  · have h1' : ((12 : Int) < c.st.length) = True := eq_true (by omega)
    repeat' (first | omega | (simp -dsimp [E19, ri, cellp, ints, Ca.row, h1, h1']) | (refine Also.intro ?_ fun _ => ?_) | (refine Hold.intro fun _ => ?_) | (refine And.intro ?_ ?_))
  · have h1' : ((12 : Int) < c.st.length) = False := eq_false (by omega)
    by_cases h2 : 12 < l.length
    · have h2' : ((12 : Int) < l.length) = True := eq_true (by omega)
      repeat' (first | omega | (simp -dsimp [E19, ri, cellp, ints, Ca.row, h1, h1', h2, h2']) | (refine Also.intro ?_ fun _ => ?_) | (refine Hold.intro fun _ => ?_) | (refine And.intro ?_ ?_))
    · have h2' : ((12 : Int) < l.length) = False := eq_false (by omega)
      repeat' (first | omega | (simp -dsimp [E19, ri, cellp, ints, Ca.row, h1, h1', h2, h2']) | (refine Also.intro ?_ fun _ => ?_) | (refine Hold.intro fun _ => ?_) | (refine And.intro ?_ ?_))
theorem ok19 : FnOK Try.prog 19 (.pure fcS) := pure_fn (E := E19) rfl LOK.nil (ok := []) (fn := Try.f19) (by kernel_rfl) (by kernel_rfl) (by kernel_rfl) (by kernel_rfl) rfl (fun _ _ => by simp) b19

/-! copies -/
@[simp] def dlE (d : List Du) : List V := [.sl 3 (d.map Du.row)]
theorem dlE_inj (a b : List Du) (h : dlE a = dlE b) : a = b := by
  simp only [dlE, List.cons.injEq, V.sl.injEq, true_and, and_true] at h
  exact mapRow_inj Du.row_inj h
theorem dlE_dec (l : List Du) : decC dlE [.sl 3 (l.map Du.row)] = l := decC_eq dlE_inj l
noncomputable abbrev dlS : PSpec := mkP dlE (fun l => l.length ≤ 1000000) fun l => .sl 3 (l.map Du.row)
noncomputable abbrev E18 : Env := { P := Try.prog, fn := tbl [], own := [3], key := 1800, nt := 6 }
theorem b18 : PureBody E18 [] Try.f18 dlS := by
  refine pb ?_
  rintro l hl
  have hl : l.length ≤ 1000000 := hl
  simp -dsimp [Try.f18, E18]
  repeat' (first | omega | (simp -dsimp [E18, ri, cellp, ints, hl]) | (refine Also.intro ?_ fun _ => ?_) | (refine Hold.intro fun _ => ?_) | (refine And.intro ?_ ?_))
theorem ok18 : FnOK Try.prog 18 (.pure dlS) := pure_fn (E := E18) rfl LOK.nil (ok := []) (fn := Try.f18) (by kernel_rfl) (by kernel_rfl) (by kernel_rfl) (by kernel_rfl) rfl (fun _ _ => by simp) b18
@[simp] def glE (d : List Gu) : List V := [.sl 4 (d.map Gu.row)]
theorem glE_inj (a b : List Gu) (h : glE a = glE b) : a = b := by
  simp only [glE, List.cons.injEq, V.sl.injEq, true_and, and_true] at h
  exact mapRow_inj Gu.row_inj h
theorem glE_dec (l : List Gu) : decC glE [.sl 4 (l.map Gu.row)] = l := decC_eq glE_inj l
noncomputable abbrev glS : PSpec := mkP glE (fun l => l.length ≤ 1000000) fun l => .sl 4 (l.map Gu.row)
noncomputable abbrev E11 : Env := { P := Try.prog, fn := tbl [], own := [3], key := 1100, nt := 6 }
theorem b11 : PureBody E11 [] Try.f11 glS := by
  refine pb ?_
  rintro l hl
  have hl : l.length ≤ 1000000 := hl
  simp -dsimp [Try.f11, E11]
  repeat' (first | omega | (simp -dsimp [E11, ri, cellp, ints, hl]) | (refine Also.intro ?_ fun _ => ?_) | (refine Hold.intro fun _ => ?_) | (refine And.intro ?_ ?_))
theorem ok11 : FnOK Try.prog 11 (.pure glS) := pure_fn (E := E11) rfl LOK.nil (ok := []) (fn := Try.f11) (by kernel_rfl) (by kernel_rfl) (by kernel_rfl) (by kernel_rfl) rfl (fun _ _ => by simp) b11
noncomputable abbrev cpyS : PSpec := mkP roE (fun r => r.ppl.length ≤ 1000000) fun r => .agg r.row
noncomputable abbrev E17 : Env := { P := Try.prog, fn := tbl [], own := [5], key := 1700, nt := 11 }
theorem b17 : PureBody E17 [] Try.f17 cpyS := by
  refine pb ?_
  rintro r hl
  have hl : r.ppl.length ≤ 1000000 := hl
  simp -dsimp [Try.f17, E17, Ro.row, pplV]
  repeat' (first | omega | (simp -dsimp [E17, ri, cellp, ints, hl, Ro.row, pplV]) | (refine Also.intro ?_ fun _ => ?_) | (refine Hold.intro fun _ => ?_) | (refine And.intro ?_ ?_))
theorem ok17 : FnOK Try.prog 17 (.pure cpyS) := pure_fn (E := E17) rfl LOK.nil (ok := []) (fn := Try.f17) (by kernel_rfl) (by kernel_rfl) (by kernel_rfl) (by kernel_rfl) rfl (fun _ _ => by simp) b17
noncomputable abbrev cpcS : PSpec := mkP caE (fun c => c.st.length ≤ 1000000) fun c => .agg c.row
noncomputable abbrev E20 : Env := { P := Try.prog, fn := tbl [], own := [5], key := 2000, nt := 11 }
theorem b20 : PureBody E20 [] Try.f20 cpcS := by
  refine pb ?_
  rintro c hl
  have hl : c.st.length ≤ 1000000 := hl
  simp -dsimp [Try.f20, E20, Ca.row]
  repeat' (first | omega | (simp -dsimp [E20, ri, cellp, ints, hl, Ca.row]) | (refine Also.intro ?_ fun _ => ?_) | (refine Hold.intro fun _ => ?_) | (refine And.intro ?_ ?_))
theorem ok20 : FnOK Try.prog 20 (.pure cpcS) := pure_fn (E := E20) rfl LOK.nil (ok := []) (fn := Try.f20) (by kernel_rfl) (by kernel_rfl) (by kernel_rfl) (by kernel_rfl) rfl (fun _ _ => by simp) b20

/-! the examples -/
def exRo : Ro := { ppl := [⟨3, 2, 100⟩, ⟨1, 1, 50⟩, ⟨2, 3, 100⟩], lng := 10, rst := 8, win := 24, tot := 14, rcn := 40 }
def exDu : List Du := [⟨0, 0, 8⟩, ⟨1, 2, 10⟩]
def exCa : Ca := { emp := 1000, arm := 0, st := [⟨20, true⟩, ⟨-20, false⟩, ⟨40, false⟩], farm := 10, low := -2, high := 5 }
def exGu : List Gu := [⟨100, false, 0, false⟩, ⟨80, false, 0, true⟩]
theorem ex_u : untO exRo exDu 0 16 = (22, 0) := by
  have c : (chkE exRo exDu).2 = 0 := by decide +kernel
  have c2 := chkEW_of srtD_ok c
  have hf := (chkE_zero.1 c).1
  have hv : Val (own exDu 0) := by unfold Val; decide +kernel
  have hN : untN exRo 16 = 10 := by decide +kernel
  have hU : untL exRo (own exDu 0) 0 16 10 = 22 := by decide +kernel
  have hW : (withinB 0 0 ((exRo.ppl.length : Int) - 1) && withinB 16 0 2000) = true := by decide +kernel
  unfold untO chk2W
  rw [c2, hN, hW, untW_eq srtD_ok hf hv (by omega) 10 (by omega), hU]
  rfl
theorem ex_s : sitE exCa exGu ⟨0, 200⟩ = ([1, 0], 0) := by decide +kernel
noncomputable abbrev exS : PSpec := mkP (D := Unit) (fun _ => []) (fun _ => True) fun _ => .tup [.agg exRo.row, .sl 3 (exDu.map Du.row)]
noncomputable abbrev E34 : Env := { P := Try.prog, fn := tbl [], own := [], key := 3400, nt := 12 }
theorem b34 : PureBody E34 [] Try.f34 exS := by
  refine pb ?_
  rintro _ _
  simp -dsimp [Try.f34, E34]
  repeat' (first | omega | (simp -dsimp [E34, ri, cellp, ints, exRo, exDu, Ro.row, pplV, Pn.row, Du.row]) | (refine Also.intro ?_ fun _ => ?_) | (refine Hold.intro fun _ => ?_) | (refine And.intro ?_ ?_))
theorem ok34 : FnOK Try.prog 34 (.pure exS) := pure_fn (E := E34) rfl LOK.nil (ok := []) (fn := Try.f34) (by kernel_rfl) (by kernel_rfl) (by kernel_rfl) (by kernel_rfl) rfl (fun _ _ => by simp) b34
noncomputable abbrev loS : PSpec := mkP (D := Unit) (fun _ => []) (fun _ => True) fun _ => .tup [.agg exCa.row, .sl 4 (exGu.map Gu.row)]
noncomputable abbrev E36 : Env := { P := Try.prog, fn := tbl [], own := [], key := 3600, nt := 12 }
theorem b36 : PureBody E36 [] Try.f36 loS := by
  refine pb ?_
  rintro _ _
  simp -dsimp [Try.f36, E36]
  repeat' (first | omega | (simp -dsimp [E36, ri, cellp, ints, exCa, exGu, Ca.row, Se.row, Gu.row]) | (refine Also.intro ?_ fun _ => ?_) | (refine Hold.intro fun _ => ?_) | (refine And.intro ?_ ?_))
theorem ok36 : FnOK Try.prog 36 (.pure loS) := pure_fn (E := E36) rfl LOK.nil (ok := []) (fn := Try.f36) (by kernel_rfl) (by kernel_rfl) (by kernel_rfl) (by kernel_rfl) rfl (fun _ _ => by simp) b36
noncomputable abbrev worksS : PSpec := mkP (D := Unit) (fun _ => []) (fun _ => True) fun _ => .bool true
noncomputable abbrev E9 : Env := { P := Try.prog, fn := tbl [(34, .pure exS), (35, .pure untS), (36, .pure loS), (21, .pure SitS), (13, .pure sameS)], own := [], key := 900, nt := 45 }
theorem b9 : PureBody E9 [] Try.f9 worksS := by
  refine pb ?_
  rintro _ _
  have e1 := ex_u
  have e2 := ex_s
  have d1 := utE_dec exRo exDu 0 16
  have d2 := lodE3_dec exCa exGu ⟨0, 200⟩
  have p1 : UtP (exRo, exDu, 0, 16) := ⟨by decide +kernel, by decide +kernel⟩
  have p2 : LoP (exCa, exGu, ⟨0, 200⟩) := ⟨by decide +kernel, by decide +kernel⟩
  simp only at d1 d2
  simp -dsimp [Try.f9, E9, Ro.row, pplV, Ca.row]
  repeat' (first | omega | (simp -dsimp [E9, ri, cellp, ints, Ro.row, pplV, Ca.row, e1, e2, d1, d2, p1, p2, V.toInts, V.rows, rowInt, V.toInt]) | (refine Also.intro ?_ fun _ => ?_) | (refine Hold.intro fun _ => ?_) | (refine And.intro ?_ ?_))
theorem ok9 : FnOK Try.prog 9 (.pure worksS) := pure_fn (E := E9) rfl (.cons ok34 (.cons ok35 (.cons ok36 (.cons ok21 (.cons ok13 .nil))))) (ok := []) (fn := Try.f9) (by kernel_rfl) (by kernel_rfl) (by kernel_rfl) (by kernel_rfl) rfl (fun _ _ => by simp) b9
end Go.Sx
end
