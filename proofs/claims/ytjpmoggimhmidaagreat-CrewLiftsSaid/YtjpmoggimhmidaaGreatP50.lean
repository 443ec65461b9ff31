/- Crew: the first balanced seating. No conditions. -/
import Derived.Test.YtjpmoggimhmidaaGreatP49
import Derived.Test.YtjpmoggimhmidaaGreatP44
set_option linter.unusedSimpArgs false
set_option linter.unusedVariables false
set_option linter.unusedSectionVars false
set_option linter.unusedSimpArgs false
set_option linter.unusedSectionVars false
set_option maxRecDepth 100000
set_option maxHeartbeats 2000000
namespace Go.Sx
open Go.Proofs
attribute [local irreducible] HLe

def siK (w : List Int) : Blk := { z := 1, els := w.map ri, ty := 3 }
def siA : Nat → List Int → Site
  | 0, _ => { base := 0, blks := [] }
  | 1, w => { base := 0, blks := [siK w] }
  | _ + 2, _ => { base := 1, blks := [] }
def siB : Nat → List Int → Site
  | 0, _ => { base := 0, blks := [] }
  | 1, _ => { base := 0, blks := [] }
  | j + 2, w => { base := j, blks := [siK w] }
def siC : Nat → List Int → V
  | 0, _ => .nil
  | 1, w => .bsl 3337 0 w.length
  | j + 2, w => .bsl 3342 j w.length
def siF : Nat → Bool
  | 0 => true
  | _ + 1 => false
def siCap : List V := [.bptr 1909 0 1 0 0, .bptr 1904 0 1 0 0, .bptr 1903 0 1 0 0, .bptr 1905 0 1 0 0, .bptr 1910 0 1 0 0]
abbrev SiD := Ca × List Gu × Sp × SS
def siS3 (c : Ca) : Site := { base := 0, blks := [{ z := 6, els := [[.int .i64 c.emp, .int .i64 c.arm, .sl 2 (c.st.map Se.row), .int .i64 c.farm, .int .i64 c.low, .int .i64 c.high]], ty := 36 }] }
def siS4 (l : List Gu) : Site := { base := 0, blks := [{ z := 1, els := [[.sl 4 (l.map Gu.row)]], ty := 37 }] }
def siS5 (f : Sp) : Site := { base := 0, blks := [{ z := 2, els := [[.int .i64 f.lo, .int .i64 f.hi]], ty := 29 }] }
def siS9 (s : SS) : Site := { base := 0, blks := [{ z := 1, els := [[siC s.m s.w]], ty := 22, cl := siF s.m }] }
def siS10 : Site := { base := 0, blks := [{ z := 1, els := [[.fn 33 siCap]], ty := 42, cl := false }] }
def siL (d : SiD) : List (Nat × Site) := [(1903, siS3 d.1), (1904, siS4 d.2.1), (1905, siS5 d.2.2.1), (1909, siS9 d.2.2.2), (1910, siS10), (3337, siA d.2.2.2.m d.2.2.2.w), (3342, siB d.2.2.2.m d.2.2.2.w)]
theorem siL_keys (d : SiD) : (siL d).map (·.1) = [1903, 1904, 1905, 1909, 1910, 3337, 3342] := rfl
theorem ss_inj {s s' : SS} (h : s.Ok) (h' : s'.Ok) (a : siA s.m s.w = siA s'.m s'.w) (b : siB s.m s.w = siB s'.m s'.w) : s = s' := by
  obtain ⟨m, w⟩ := s; obtain ⟨m', w'⟩ := s'
  unfold SS.Ok at h h'
  dsimp only at *
  match m, m' with
  | 0, 0 => rw [h rfl, h' rfl]
  | 0, 1 => simp [siA] at a
  | 0, j + 2 => simp [siB] at b
  | 1, 0 => simp [siA] at a
  | 1, 1 => simp [siA, siK] at a; rw [map_ri_inj a]
  | 1, j + 2 => simp [siA] at a
  | j + 2, 0 => simp [siB] at b
  | j + 2, 1 => simp [siA] at a
  | j + 2, i + 2 => simp [siB, siK] at b; rw [b.1, map_ri_inj b.2]
theorem si_inj (d d' : SiD) (h : Hp) (h1 : Mt siL [1903, 1904, 1905, 1909, 1910, 3337, 3342] d h ∧ d.2.2.2.Ok) (h2 : Mt siL [1903, 1904, 1905, 1909, 1910, 3337, 3342] d' h ∧ d'.2.2.2.Ok) : d = d' := by
  obtain ⟨c, l, f, s⟩ := d; obtain ⟨c', l', f', s'⟩ := d'
  have e := fun k (hk : k ∈ [1903, 1904, 1905, 1909, 1910, 3337, 3342]) => (h1.1 k hk).symm.trans (h2.1 k hk)
  have e1 : (siS3 c).blks = (siS3 c').blks := congrArg Site.blks (e 1903 (by simp))
  have e2 : (siS4 l).blks = (siS4 l').blks := congrArg Site.blks (e 1904 (by simp))
  have e3 : (siS5 f).blks = (siS5 f').blks := congrArg Site.blks (e 1905 (by simp))
  have e4 : siA s.m s.w = siA s'.m s'.w := e 3337 (by simp)
  have e5 : siB s.m s.w = siB s'.m s'.w := e 3342 (by simp)
  simp only [siS3, siS4, siS5, List.cons.injEq, Blk.mk.injEq, V.sl.injEq, and_true, true_and] at e1 e2 e3
  have e1 := Ca.row_inj c c' (by simpa [Ca.row] using e1)
  have e2 := mapRow_inj Gu.row_inj e2
  have e3 := Sp.row_inj f f' (by simpa [Sp.row] using e3)
  have e6 : s = s' := ss_inj h1.2 h2.2 e4 e5
  rw [e1, e2, e3, e6]
structure SitP (M : Nat) (d : SiD) : Prop where
  f : LFit d.1 d.2.1 d.2.2.1
  sk : ∀ i, i < d.2.2.2.w.length → seatOk d.1 d.2.1 d.2.2.2.w i = true
  le : d.2.2.2.w.length ≤ d.2.1.length
  lt : d.2.1.length - d.2.2.2.w.length < M
noncomputable abbrev sitS (M : Nat) : HSpec := mkH (fun _ : SiD => siCap) (fun d h => Mt siL [1903, 1904, 1905, 1909, 1910, 3337, 3342] d h ∧ d.2.2.2.Ok) (SitP M)
  (fun d => .bool (sitX d.1 d.2.1 d.2.2.1 (d.2.1.length - d.2.2.2.w.length) d.2.2.2).1) (fun d h => Ob siL (d.1, d.2.1, d.2.2.1, (sitX d.1 d.2.1 d.2.2.1 (d.2.1.length - d.2.2.2.w.length) d.2.2.2).2) h)
theorem sit_gen {M : Nat} {c : Ca} {l : List Gu} {f : Sp} {s : SS} (ho : s.Ok) {m : Nat} (hm : l.length - s.w.length = m) {h : Hp} (h1 : h 1903 = siS3 c) (h2 : h 1904 = siS4 l) (h3 : h 1905 = siS5 f) (h4 : h 1909 = siS9 s) (h5 : h 1910 = siS10) (h6 : h 3337 = siA s.m s.w) (h7 : h 3342 = siB s.m s.w) :
    (sitS M).go [.bptr 1909 0 1 0 0, .bptr 1904 0 1 0 0, .bptr 1903 0 1 0 0, .bptr 1905 0 1 0 0, .bptr 1910 0 1 0 0] h = ⟨SitP M (c, l, f, s), .bool (sitX c l f m s).1, hps (siL (c, l, f, (sitX c l f m s).2)) h⟩ := by
  subst hm
  refine mkH_at (enc := fun _ : SiD => siCap) (fun d d' h _ => si_inj d d' h) (d := (c, l, f, s)) ⟨fun k hk => ?_, ho⟩
  simp only [List.mem_cons, List.not_mem_nil, or_false] at hk
  rcases hk with rfl | rfl | rfl | rfl | rfl | rfl | rfl
  · exact h1
  · exact h2
  · exact h3
  · exact h4
  · exact h5
  · exact h6
  · exact h7
theorem pfit_sit {c : Ca} {l : List Gu} {f : Sp} {w : List Int} (hL : LFit c l f) (hk : ∀ i, i < w.length → seatOk c l w i = true) (hn : w.length = l.length) : PFit (c, l, w, f) :=
  ⟨hL, right_ok hn fun j hj => hk j (by rw [hn]; exact hj)⟩
noncomputable abbrev E33 (M : Nat) : Env := { P := Tryz.prog, fn := tbl [(34, .pure balS), (35, .pure sitsS), (33, .heap (sitS M))], own := [42], key := 3300, nt := 44 }
theorem b33 (M : Nat) : HeapBody (E33 M) [] Tryz.f33 (sitS (M + 1)) := by
  intro args h hc
  obtain ⟨⟨c, l, f, s⟩, rfl, ⟨hM, hso⟩, ⟨hL, hsk, hle, hlt⟩, hgo⟩ := mkH_inv hc
  rw [hgo]
  clear hgo hc
  have hM : h = Ob siL (c, l, f, s) h := (ob_mt siL_keys).1 hM
  simp only at hL hsk hle hlt hso
  dsimp only
  rw [hM, Ob, Ob, hps_app]
  generalize h = h0 at *
  clear hM
  have hn8 : l.length ≤ 8 := by have := hL.n; have := hL.cf.n; omega
  have hs8 := hL.cf.n
  obtain ⟨sm, w⟩ := s
  simp only at hsk hle hlt
  by_cases hfull : w.length = l.length
  · have hx : sitX c l f (l.length - w.length) ⟨sm, w⟩ = (balB c l f w, ⟨sm, w⟩) := by rw [hfull, Nat.sub_self]; rfl
    rw [hx]
    have hP := pfit_sit hL hsk hfull
    have hfi : ((w.length : Int) = l.length) = True := eq_true (by omega)
    have hfi2 : ((l.length : Int) = w.length) = True := eq_true (by omega)
    have hsm : sm = 0 ∨ sm = 1 ∨ ∃ j, sm = j + 2 := by
      match sm with
      | 0 => exact .inl rfl
      | 1 => exact .inr (.inl rfl)
      | j + 2 => exact .inr (.inr ⟨j, rfl⟩)
    rcases hsm with rfl | rfl | ⟨j, rfl⟩
    · have hw : w = [] := hso rfl
      subst hw
      have hl0 : l = [] := List.eq_nil_of_length_eq_zero (by simpa using hfull.symm)
      subst hl0
      have hdec := pcE_dec c [] [] f
      simp only [List.map_nil] at hdec
      simp -dsimp [Tryz.f33, E33, Ob, siL, siS3, siS4, siS5, siS9, siS10, siA, siB, siC, siF, siK, siCap, hps_app, List.cons_append, List.nil_append]
      repeat' (first | omega | (simp -dsimp [E33, ri, cellp, ints, Ob, siL, siS3, siS4, siS5, siS9, siS10, siA, siB, siC, siF, siK, siCap, hps_app, List.cons_append, List.nil_append, hfi, hfi2, hfull, hdec, nf2_nil, nf2_sl, hP, Ca.row, Gu.row, Sp.row]) | (refine Also.intro ?_ fun _ => ?_) | (refine Hold.intro fun _ => ?_) | (refine And.intro ?_ ?_))
      exact (by (try simp -dsimp only [hpush_noH, hpush_hps, hps_over]); refine hle_hpsb ?_; simp -dsimp [allK, ]; repeat' (first | (refine And.intro ?_ ?_) | (refine sLe.same ?_ ?_ <;> (simp; done)) | (refine sLe.clear ?_ ?_ <;> (first | (simp; done) | (simp; omega))) | (refine sLe.drop 1 ?_ ?_ ?_ <;> (simp; done))))
    · have hdec := pcE_dec c l w f
      simp -dsimp [Tryz.f33, E33, Ob, siL, siS3, siS4, siS5, siS9, siS10, siA, siB, siC, siF, siK, siCap, hps_app, List.cons_append, List.nil_append]
      repeat' (first | omega | (simp -dsimp [E33, ri, cellp, ints, Ob, siL, siS3, siS4, siS5, siS9, siS10, siA, siB, siC, siF, siK, siCap, hps_app, List.cons_append, List.nil_append, hfi, hfi2, hfull, hdec, nf2_nil, nf2_sl, hP, Ca.row, Gu.row, Sp.row]) | (refine Also.intro ?_ fun _ => ?_) | (refine Hold.intro fun _ => ?_) | (refine And.intro ?_ ?_))
      exact (by (try simp -dsimp only [hpush_noH, hpush_hps, hps_over]); refine hle_hpsb ?_; simp -dsimp [allK, ]; repeat' (first | (refine And.intro ?_ ?_) | (refine sLe.same ?_ ?_ <;> (simp; done)) | (refine sLe.clear ?_ ?_ <;> (first | (simp; done) | (simp; omega))) | (refine sLe.drop 1 ?_ ?_ ?_ <;> (simp; done))))
    · have hdec := pcE_dec c l w f
      simp -dsimp [Tryz.f33, E33, Ob, siL, siS3, siS4, siS5, siS9, siS10, siA, siB, siC, siF, siK, siCap, hps_app, List.cons_append, List.nil_append]
      repeat' (first | omega | (simp -dsimp [E33, ri, cellp, ints, Ob, siL, siS3, siS4, siS5, siS9, siS10, siA, siB, siC, siF, siK, siCap, hps_app, List.cons_append, List.nil_append, hfi, hfi2, hfull, hdec, nf2_nil, nf2_sl, hP, Ca.row, Gu.row, Sp.row]) | (refine Also.intro ?_ fun _ => ?_) | (refine Hold.intro fun _ => ?_) | (refine And.intro ?_ ?_))
      exact (by (try simp -dsimp only [hpush_noH, hpush_hps, hps_over]); refine hle_hpsb ?_; simp -dsimp [allK, ]; repeat' (first | (refine And.intro ?_ ?_) | (refine sLe.same ?_ ?_ <;> (simp; done)) | (refine sLe.clear ?_ ?_ <;> (first | (simp; done) | (simp; omega))) | (refine sLe.drop 1 ?_ ?_ ?_ <;> (simp; done))))
  have hlt' : w.length < l.length := by omega
  have hnf : ((w.length : Int) = l.length) = False := eq_false (by omega)
  obtain ⟨m, hm⟩ : ∃ m, l.length - w.length = m + 1 := ⟨l.length - w.length - 1, by omega⟩
  obtain ⟨g, hg⟩ : ∃ g, l[w.length]? = some g := ⟨_, List.getElem?_eq_getElem hlt'⟩
  have hg' : l[w.length] = g := (List.getElem?_eq_some_iff.1 hg).2
  have hga : guAt l w.length = g := by simp [guAt, List.getD, hg]
  have hx : sitX c l f (l.length - w.length) ⟨sm, w⟩ = lpX (sitX c l f m) c g w.length ⟨sm, w⟩ c.st.length := by rw [hm, ← hga]; rfl
  dsimp only
  rw [hx]
  have hinv := fun k => sitX_lp c l f m (sitX_ok c l f m) ⟨sm, w⟩ hso k
  dsimp only at hinv
  rw [hga] at hinv
  clear hx
  have hlen : (siC sm w).len = some w.length := by
    match sm, hso with
    | 0, h => rw [show w = [] from h rfl]; rfl
    | 1, _ => rfl
    | j + 2, _ => rfl
  simp -dsimp [Tryz.f33, E33, Ob, siL, siS3, siS4, siS5, siS9, siS10, siCap, hps_app, List.cons_append, List.nil_append]
  repeat' (first | omega | (simp -dsimp [E33, ri, cellp, ints, Ob, siL, siS3, siS4, siS5, siS9, siS10, siCap, hps_app, List.cons_append, List.nil_append, hlen, hnf, Ca.row, Gu.row, Sp.row]) | (refine Also.intro ?_ fun _ => ?_) | (refine Hold.intro fun _ => ?_) | (refine And.intro ?_ ?_))
  refine awp_loop [23, 24, 7, 25, 26, 27, 28, 29, 30, 31, 32, 33, 34, 35, 36, 37, 38, 39, 5, 40, 41, 42, 43, 22] (fun k : { k : Nat // k ≤ c.st.length ∧ (lpX (sitX c l f m) c g w.length ⟨sm, w⟩ k).1 = false } => [(22, (true, .int .i64 k.1))]) (fun k => hps (siL (c, l, f, (lpX (sitX c l f m) c g w.length ⟨sm, w⟩ k.1).2)) h0) (fun k => c.st.length - k.1) ⟨0, by omega, rfl⟩ ?_ ?_ ?_
  · simp [okAll, okv]
  · exact (by (try simp -dsimp only [hpush_noH, hpush_hps, hps_over]); refine hle_hpsb ?_; simp -dsimp [allK, siL, siS3, siS4, siS5, siS9, siS10, siCap, lpX]; repeat' (first | (refine And.intro ?_ ?_) | (refine sLe.same ?_ ?_ <;> (simp; done)) | (refine sLe.clear ?_ ?_ <;> (first | (simp; done) | (simp; omega))) | (refine sLe.drop 1 ?_ ?_ ?_ <;> (simp; done))))
  rintro ⟨k, hk, hk0⟩
  dsimp only
  obtain ⟨i1, i2, i3, i4⟩ := hinv k
  replace i4 := (i4 hk0).2
  by_cases hk1 : k < c.st.length
  case neg =>
    have hkn : ¬ (k : Int) < c.st.length := by omega
    have hke : k = c.st.length := by omega
    subst hke
    rw [hk0]
    simp -dsimp [hkn]
    repeat' (first | omega | (simp -dsimp [E33, ri, cellp, ints, hkn]) | (refine Also.intro ?_ fun _ => ?_) | (refine Hold.intro fun _ => ?_) | (refine And.intro ?_ ?_))
    exact (by (try simp -dsimp only [hpush_noH, hpush_hps, hps_over]); refine hle_hpsb ?_; simp -dsimp [allK, siL, siS3, siS4, siS5, siS9, siS10, siCap]; repeat' (first | (refine And.intro ?_ ?_) | (refine sLe.same ?_ ?_ <;> (simp; done)) | (refine sLe.clear ?_ ?_ <;> (first | (simp; done) | (simp; omega))) | (refine sLe.drop 1 ?_ ?_ ?_ <;> (simp; done))))
  have hki : (k : Int) < c.st.length := by omega
  have wk : IntKind.wrap .i64 ((k : Int) + 1) = (k + 1 : Nat) := wrap_id (by omega) (by omega)
  have hS := lpX_succ hk0
  generalize lpX (sitX c l f m) c g w.length ⟨sm, w⟩ k = R at *
  obtain ⟨b, tm, tw⟩ := R
  dsimp only at hk0 i1 i2 i4 hS
  subst hk0 i4
  have hwn8 : tw.length ≤ 8 := by omega
  obtain ⟨v, hv⟩ : ∃ v, c.st[k]? = some v := ⟨_, List.getElem?_eq_getElem hk1⟩
  have hlti : (tw.length : Int) < l.length := by omega
  have htm : tm = 0 ∨ tm = 1 ∨ ∃ j, tm = j + 2 := by
    match tm with
    | 0 => exact .inl rfl
    | 1 => exact .inr (.inl rfl)
    | j + 2 => exact .inr (.inr ⟨j, rfl⟩)
  have hSP : SiP (c, g, tw, (k : Int)) := ⟨by simp only; omega, by simp only; omega⟩
  cases hsb : sitsB c g tw (k : Int)
  · rw [if_neg (by rw [hsb]; decide)] at hS
    rcases htm with rfl | rfl | ⟨j, rfl⟩
    · have hw : tw = [] := i1 rfl
      subst hw
      simp only [List.length_nil] at hg hg' hS
      have hlt0 : (0 : Int) < l.length := by omega
      have hlt00 : 0 < l.length := by omega
      have hne : (l = []) = False := eq_false (by rintro rfl; simp at hlt00)
      have hdec := siE_dec c g [] (k : Int)
      simp only [List.map_nil] at hdec
      simp -dsimp [hki]
      repeat' (first | omega | (simp -dsimp [E33, ri, cellp, ints, Ob, siL, siS3, siS4, siS5, siS9, siS10, siA, siB, siC, siF, siK, siCap, hps_app, List.cons_append, List.nil_append, hki, hk1, hlt0, hne, hlti, hlt', hg, hg', hv, wk, hdec, nf2_nil, nf2_sl, hSP, hsb, hwn8, Ca.row, Gu.row, Sp.row]) | (refine Also.intro ?_ fun _ => ?_) | (refine Hold.intro fun _ => ?_) | (refine And.intro ?_ ?_))
      refine ⟨k + 1, tle_chain rfl ?_, ?_, ⟨by omega, by rw [hS]⟩, by omega⟩
      · simp [okAll, okv]
      · rw [hS]; exact (by (try simp -dsimp only [hpush_noH, hpush_hps, hps_over]); refine hle_hpsb ?_; simp -dsimp [allK, Ob, siL, siS3, siS4, siS5, siS9, siS10, siA, siB, siC, siF, siK, siCap, hps_app, List.cons_append, List.nil_append]; repeat' (first | (refine And.intro ?_ ?_) | (refine sLe.same ?_ ?_ <;> (simp; done)) | (refine sLe.clear ?_ ?_ <;> (first | (simp; done) | (simp; omega))) | (refine sLe.drop 1 ?_ ?_ ?_ <;> (simp; done))))
    · have hdec := siE_dec c g tw (k : Int)
      simp -dsimp [hki]
      repeat' (first | omega | (simp -dsimp [E33, ri, cellp, ints, Ob, siL, siS3, siS4, siS5, siS9, siS10, siA, siB, siC, siF, siK, siCap, hps_app, List.cons_append, List.nil_append, hki, hk1, hlti, hlt', hg, hg', hv, wk, hdec, nf2_nil, nf2_sl, hSP, hsb, hwn8, Ca.row, Gu.row, Sp.row]) | (refine Also.intro ?_ fun _ => ?_) | (refine Hold.intro fun _ => ?_) | (refine And.intro ?_ ?_))
      refine ⟨k + 1, tle_chain rfl ?_, ?_, ⟨by omega, by rw [hS]⟩, by omega⟩
      · simp [okAll, okv]
      · rw [hS]; exact (by (try simp -dsimp only [hpush_noH, hpush_hps, hps_over]); refine hle_hpsb ?_; simp -dsimp [allK, Ob, siL, siS3, siS4, siS5, siS9, siS10, siA, siB, siC, siF, siK, siCap, hps_app, List.cons_append, List.nil_append]; repeat' (first | (refine And.intro ?_ ?_) | (refine sLe.same ?_ ?_ <;> (simp; done)) | (refine sLe.clear ?_ ?_ <;> (first | (simp; done) | (simp; omega))) | (refine sLe.drop 1 ?_ ?_ ?_ <;> (simp; done))))
    · have hdec := siE_dec c g tw (k : Int)
      simp -dsimp [hki]
      repeat' (first | omega | (simp -dsimp [E33, ri, cellp, ints, Ob, siL, siS3, siS4, siS5, siS9, siS10, siA, siB, siC, siF, siK, siCap, hps_app, List.cons_append, List.nil_append, hki, hk1, hlti, hlt', hg, hg', hv, wk, hdec, nf2_nil, nf2_sl, hSP, hsb, hwn8, Ca.row, Gu.row, Sp.row]) | (refine Also.intro ?_ fun _ => ?_) | (refine Hold.intro fun _ => ?_) | (refine And.intro ?_ ?_))
      refine ⟨k + 1, tle_chain rfl ?_, ?_, ⟨by omega, by rw [hS]⟩, by omega⟩
      · simp [okAll, okv]
      · rw [hS]; exact (by (try simp -dsimp only [hpush_noH, hpush_hps, hps_over]); refine hle_hpsb ?_; simp -dsimp [allK, Ob, siL, siS3, siS4, siS5, siS9, siS10, siA, siB, siC, siF, siK, siCap, hps_app, List.cons_append, List.nil_append]; repeat' (first | (refine And.intro ?_ ?_) | (refine sLe.same ?_ ?_ <;> (simp; done)) | (refine sLe.clear ?_ ?_ <;> (first | (simp; done) | (simp; omega))) | (refine sLe.drop 1 ?_ ?_ ?_ <;> (simp; done))))
  rw [if_pos hsb] at hS
  have ho' := SS.Ok.add ⟨tm, tw⟩ k
  have hsk' : ∀ i, i < (SS.add ⟨tm, tw⟩ k).w.length → seatOk c l (SS.add ⟨tm, tw⟩ k).w i = true := by
    intro i hi
    simp only [SS.add, List.length_append, List.length_singleton] at hi
    simp only [SS.add]
    by_cases h : i < tw.length
    · rw [seatOk_snoc h]; exact hsk i h
    · have : i = tw.length := by omega
      subst this
      unfold seatOk
      rw [List.take_left' rfl, hga]
      simpa [List.getD] using hsb
  have hle' : (SS.add ⟨tm, tw⟩ k).w.length ≤ l.length := by simp [SS.add]; omega
  have hm' : l.length - (SS.add ⟨tm, tw⟩ k).w.length = m := by rw [show (SS.add ⟨tm, tw⟩ k).w.length = tw.length + 1 by simp [SS.add], ← Nat.sub_sub, hm]; rfl
  have hSt : SitP M (c, l, f, SS.add ⟨tm, tw⟩ k) := ⟨hL, hsk', hle', by simp only [hm']; omega⟩
  have hX := sitX_ok c l f m (SS.add ⟨tm, tw⟩ k) ho'
  have hgo := fun h => sit_gen (M := M) (c := c) (l := l) (f := f) ho' hm' (h := h)
  have hm1 := (SS.add_m ⟨tm, tw⟩ k).2
  obtain ⟨x1, x2, x3, x4⟩ := hX
  generalize sitX c l f m (SS.add ⟨tm, tw⟩ k) = R at *
  obtain ⟨b2, m2, w2⟩ := R
  dsimp only at x1 x2 x3 x4 hgo hS
  have hgo2 := fun h h1 h2 h3 h4 h5 h6 h7 => (hgo h h1 h2 h3 h4 h5 h6 h7).trans (by rw [eq_true hSt])
  clear hgo hSt hsk' ho' hm' hle'
  cases b2 with
  | true =>
    rw [if_pos rfl] at hS
    obtain ⟨q, hq⟩ : ∃ q, c.st.length = (k + 1) + q := ⟨c.st.length - (k + 1), by omega⟩
    have hend : lpX (sitX c l f m) c g tw.length ⟨sm, tw⟩ c.st.length = (true, ⟨m2, w2⟩) := by rw [hq, lpX_stop _ _ _ _ _ (by rw [hS]), hS]
    rw [hend]
    clear hq
    rcases htm with rfl | rfl | ⟨j, rfl⟩
    · have hw : tw = [] := i1 rfl
      subst hw
      simp only [List.length_nil] at hg hg' hS
      have hlt0 : (0 : Int) < l.length := by omega
      have hlt00 : 0 < l.length := by omega
      have hne : (l = []) = False := eq_false (by rintro rfl; simp at hlt00)
      have hdec := siE_dec c g [] (k : Int)
      simp only [List.map_nil] at hdec
      simp -dsimp [SS.add, Ob, siL, siS3, siS4, siS5, siS9, siS10, siA, siB, siC, siF, siK, siCap, hps_app, List.cons_append, List.nil_append, ri, Ca.row, Gu.row, Sp.row] at hgo2
      simp -dsimp [hki]
      repeat' (first | omega | (simp -dsimp [E33, ri, cellp, ints, Ob, siL, siS3, siS4, siS5, siS9, siS10, siA, siB, siC, siF, siK, siCap, hps_app, List.cons_append, List.nil_append, hki, hk1, hlt0, hne, hlti, hlt', hg, hg', hv, wk, hdec, nf2_nil, nf2_sl, hSP, hsb, hwn8, hgo2, Ca.row, Gu.row, Sp.row]) | (refine Also.intro ?_ fun _ => ?_) | (refine Hold.intro fun _ => ?_) | (refine And.intro ?_ ?_))
      exact (by (try simp -dsimp only [hpush_noH, hpush_hps, hps_over]); refine hle_hpsb ?_; simp -dsimp [allK, Ob, siL, siS3, siS4, siS5, siS9, siS10, siA, siB, siC, siF, siK, siCap, hps_app, List.cons_append, List.nil_append]; repeat' (first | (refine And.intro ?_ ?_) | (refine sLe.same ?_ ?_ <;> (simp; done)) | (refine sLe.clear ?_ ?_ <;> (first | (simp; done) | (simp; omega))) | (refine sLe.drop 1 ?_ ?_ ?_ <;> (simp; done))))
    · have hdec := siE_dec c g tw (k : Int)
      simp -dsimp [SS.add, Ob, siL, siS3, siS4, siS5, siS9, siS10, siA, siB, siC, siF, siK, siCap, hps_app, List.cons_append, List.nil_append, ri, Ca.row, Gu.row, Sp.row] at hgo2
      simp -dsimp [hki]
      repeat' (first | omega | (simp -dsimp [E33, ri, cellp, ints, Ob, siL, siS3, siS4, siS5, siS9, siS10, siA, siB, siC, siF, siK, siCap, hps_app, List.cons_append, List.nil_append, hki, hk1, hlti, hlt', hg, hg', hv, wk, hdec, nf2_nil, nf2_sl, hSP, hsb, hwn8, hgo2, Ca.row, Gu.row, Sp.row]) | (refine Also.intro ?_ fun _ => ?_) | (refine Hold.intro fun _ => ?_) | (refine And.intro ?_ ?_))
      exact (by (try simp -dsimp only [hpush_noH, hpush_hps, hps_over]); refine hle_hpsb ?_; simp -dsimp [allK, Ob, siL, siS3, siS4, siS5, siS9, siS10, siA, siB, siC, siF, siK, siCap, hps_app, List.cons_append, List.nil_append]; repeat' (first | (refine And.intro ?_ ?_) | (refine sLe.same ?_ ?_ <;> (simp; done)) | (refine sLe.clear ?_ ?_ <;> (first | (simp; done) | (simp; omega))) | (refine sLe.drop 1 ?_ ?_ ?_ <;> (simp; done))))
    · have hdec := siE_dec c g tw (k : Int)
      simp -dsimp [SS.add, Ob, siL, siS3, siS4, siS5, siS9, siS10, siA, siB, siC, siF, siK, siCap, hps_app, List.cons_append, List.nil_append, ri, Ca.row, Gu.row, Sp.row] at hgo2
      simp -dsimp [hki]
      repeat' (first | omega | (simp -dsimp [E33, ri, cellp, ints, Ob, siL, siS3, siS4, siS5, siS9, siS10, siA, siB, siC, siF, siK, siCap, hps_app, List.cons_append, List.nil_append, hki, hk1, hlti, hlt', hg, hg', hv, wk, hdec, nf2_nil, nf2_sl, hSP, hsb, hwn8, hgo2, Ca.row, Gu.row, Sp.row]) | (refine Also.intro ?_ fun _ => ?_) | (refine Hold.intro fun _ => ?_) | (refine And.intro ?_ ?_))
      exact (by (try simp -dsimp only [hpush_noH, hpush_hps, hps_over]); refine hle_hpsb ?_; simp -dsimp [allK, Ob, siL, siS3, siS4, siS5, siS9, siS10, siA, siB, siC, siF, siK, siCap, hps_app, List.cons_append, List.nil_append]; repeat' (first | (refine And.intro ?_ ?_) | (refine sLe.same ?_ ?_ <;> (simp; done)) | (refine sLe.clear ?_ ?_ <;> (first | (simp; done) | (simp; omega))) | (refine sLe.drop 1 ?_ ?_ ?_ <;> (simp; done))))
  | false =>
    rw [if_neg (by decide)] at hS
    have hw2 := (x4 rfl).2
    clear x3 x4
    have hm2 : m2 = 1 ∨ ∃ j, m2 = j + 2 := by
      match m2, Nat.le_trans hm1 x2 with
      | 1, _ => exact .inl rfl
      | j + 2, _ => exact .inr ⟨j, rfl⟩
    have hl2 : w2.length = tw.length + 1 := by rw [hw2]; simp [SS.add]
    have ht2 : (w2.map ri).take tw.length = tw.map ri := by rw [hw2]; simp [SS.add]
    have hb2 : SS.back ⟨m2, w2⟩ tw.length = ⟨m2 + 1, tw⟩ := by rw [hw2]; simp [SS.back, SS.add]
    rw [hb2] at hS
    clear hw2 hb2 x1
    rcases hm2 with rfl | ⟨i, rfl⟩
    · rcases htm with rfl | rfl | ⟨j, rfl⟩
      · have hw : tw = [] := i1 rfl
        subst hw
        simp only [List.length_nil] at hg hg' hS
        have hlt0 : (0 : Int) < l.length := by omega
        have hlt00 : 0 < l.length := by omega
        have hne : (l = []) = False := eq_false (by rintro rfl; simp at hlt00)
        have hdec := siE_dec c g [] (k : Int)
        simp only [List.map_nil] at hdec
        simp -dsimp [SS.add, Ob, siL, siS3, siS4, siS5, siS9, siS10, siA, siB, siC, siF, siK, siCap, hps_app, List.cons_append, List.nil_append, ri, Ca.row, Gu.row, Sp.row] at hgo2
        simp -dsimp [hki]
        repeat' (first | omega | (simp -dsimp [E33, ri, cellp, ints, Ob, siL, siS3, siS4, siS5, siS9, siS10, siA, siB, siC, siF, siK, siCap, hps_app, List.cons_append, List.nil_append, hki, hk1, hlt0, hne, hlti, hlt', hg, hg', hv, wk, hdec, nf2_nil, nf2_sl, hSP, hsb, hwn8, hgo2, hl2, ht2, Ca.row, Gu.row, Sp.row]) | (refine Also.intro ?_ fun _ => ?_) | (refine Hold.intro fun _ => ?_) | (refine And.intro ?_ ?_))
        refine ⟨k + 1, tle_chain rfl ?_, ?_, ⟨by omega, by rw [hS]⟩, by omega⟩
        · simp [okAll, okv]
        · rw [hS]; exact (by (try simp -dsimp only [hpush_noH, hpush_hps, hps_over]); refine hle_hpsb ?_; simp -dsimp [allK, Ob, siL, siS3, siS4, siS5, siS9, siS10, siA, siB, siC, siF, siK, siCap, hps_app, List.cons_append, List.nil_append]; repeat' (first | (refine And.intro ?_ ?_) | (refine sLe.same ?_ ?_ <;> (simp; done)) | (refine sLe.clear ?_ ?_ <;> (first | (simp; done) | (simp; omega))) | (refine sLe.drop 1 ?_ ?_ ?_ <;> (simp; done))))
      · have hdec := siE_dec c g tw (k : Int)
        simp -dsimp [SS.add, Ob, siL, siS3, siS4, siS5, siS9, siS10, siA, siB, siC, siF, siK, siCap, hps_app, List.cons_append, List.nil_append, ri, Ca.row, Gu.row, Sp.row] at hgo2
        simp -dsimp [hki]
        repeat' (first | omega | (simp -dsimp [E33, ri, cellp, ints, Ob, siL, siS3, siS4, siS5, siS9, siS10, siA, siB, siC, siF, siK, siCap, hps_app, List.cons_append, List.nil_append, hki, hk1, hlti, hlt', hg, hg', hv, wk, hdec, nf2_nil, nf2_sl, hSP, hsb, hwn8, hgo2, hl2, ht2, Ca.row, Gu.row, Sp.row]) | (refine Also.intro ?_ fun _ => ?_) | (refine Hold.intro fun _ => ?_) | (refine And.intro ?_ ?_))
        refine ⟨k + 1, tle_chain rfl ?_, ?_, ⟨by omega, by rw [hS]⟩, by omega⟩
        · simp [okAll, okv]
        · rw [hS]; exact (by (try simp -dsimp only [hpush_noH, hpush_hps, hps_over]); refine hle_hpsb ?_; simp -dsimp [allK, Ob, siL, siS3, siS4, siS5, siS9, siS10, siA, siB, siC, siF, siK, siCap, hps_app, List.cons_append, List.nil_append]; repeat' (first | (refine And.intro ?_ ?_) | (refine sLe.same ?_ ?_ <;> (simp; done)) | (refine sLe.clear ?_ ?_ <;> (first | (simp; done) | (simp; omega))) | (refine sLe.drop 1 ?_ ?_ ?_ <;> (simp; done))))
      · have hdec := siE_dec c g tw (k : Int)
        simp -dsimp [SS.add, Ob, siL, siS3, siS4, siS5, siS9, siS10, siA, siB, siC, siF, siK, siCap, hps_app, List.cons_append, List.nil_append, ri, Ca.row, Gu.row, Sp.row] at hgo2
        simp -dsimp [hki]
        repeat' (first | omega | (simp -dsimp [E33, ri, cellp, ints, Ob, siL, siS3, siS4, siS5, siS9, siS10, siA, siB, siC, siF, siK, siCap, hps_app, List.cons_append, List.nil_append, hki, hk1, hlti, hlt', hg, hg', hv, wk, hdec, nf2_nil, nf2_sl, hSP, hsb, hwn8, hgo2, hl2, ht2, Ca.row, Gu.row, Sp.row]) | (refine Also.intro ?_ fun _ => ?_) | (refine Hold.intro fun _ => ?_) | (refine And.intro ?_ ?_))
        refine ⟨k + 1, tle_chain rfl ?_, ?_, ⟨by omega, by rw [hS]⟩, by omega⟩
        · simp [okAll, okv]
        · rw [hS]; exact (by (try simp -dsimp only [hpush_noH, hpush_hps, hps_over]); refine hle_hpsb ?_; simp -dsimp [allK, Ob, siL, siS3, siS4, siS5, siS9, siS10, siA, siB, siC, siF, siK, siCap, hps_app, List.cons_append, List.nil_append]; repeat' (first | (refine And.intro ?_ ?_) | (refine sLe.same ?_ ?_ <;> (simp; done)) | (refine sLe.clear ?_ ?_ <;> (first | (simp; done) | (simp; omega))) | (refine sLe.drop 1 ?_ ?_ ?_ <;> (simp; done))))
    · rcases htm with rfl | rfl | ⟨j, rfl⟩
      · have hw : tw = [] := i1 rfl
        subst hw
        simp only [List.length_nil] at hg hg' hS
        have hlt0 : (0 : Int) < l.length := by omega
        have hlt00 : 0 < l.length := by omega
        have hne : (l = []) = False := eq_false (by rintro rfl; simp at hlt00)
        have hdec := siE_dec c g [] (k : Int)
        simp only [List.map_nil] at hdec
        simp -dsimp [SS.add, Ob, siL, siS3, siS4, siS5, siS9, siS10, siA, siB, siC, siF, siK, siCap, hps_app, List.cons_append, List.nil_append, ri, Ca.row, Gu.row, Sp.row] at hgo2
        simp -dsimp [hki]
        repeat' (first | omega | (simp -dsimp [E33, ri, cellp, ints, Ob, siL, siS3, siS4, siS5, siS9, siS10, siA, siB, siC, siF, siK, siCap, hps_app, List.cons_append, List.nil_append, hki, hk1, hlt0, hne, hlti, hlt', hg, hg', hv, wk, hdec, nf2_nil, nf2_sl, hSP, hsb, hwn8, hgo2, hl2, ht2, Ca.row, Gu.row, Sp.row]) | (refine Also.intro ?_ fun _ => ?_) | (refine Hold.intro fun _ => ?_) | (refine And.intro ?_ ?_))
        refine ⟨k + 1, tle_chain rfl ?_, ?_, ⟨by omega, by rw [hS]⟩, by omega⟩
        · simp [okAll, okv]
        · rw [hS]; exact (by (try simp -dsimp only [hpush_noH, hpush_hps, hps_over]); refine hle_hpsb ?_; simp -dsimp [allK, Ob, siL, siS3, siS4, siS5, siS9, siS10, siA, siB, siC, siF, siK, siCap, hps_app, List.cons_append, List.nil_append]; repeat' (first | (refine And.intro ?_ ?_) | (refine sLe.same ?_ ?_ <;> (simp; done)) | (refine sLe.clear ?_ ?_ <;> (first | (simp; done) | (simp; omega))) | (refine sLe.drop 1 ?_ ?_ ?_ <;> (simp; done))))
      · have hdec := siE_dec c g tw (k : Int)
        simp -dsimp [SS.add, Ob, siL, siS3, siS4, siS5, siS9, siS10, siA, siB, siC, siF, siK, siCap, hps_app, List.cons_append, List.nil_append, ri, Ca.row, Gu.row, Sp.row] at hgo2
        simp -dsimp [hki]
        repeat' (first | omega | (simp -dsimp [E33, ri, cellp, ints, Ob, siL, siS3, siS4, siS5, siS9, siS10, siA, siB, siC, siF, siK, siCap, hps_app, List.cons_append, List.nil_append, hki, hk1, hlti, hlt', hg, hg', hv, wk, hdec, nf2_nil, nf2_sl, hSP, hsb, hwn8, hgo2, hl2, ht2, Ca.row, Gu.row, Sp.row]) | (refine Also.intro ?_ fun _ => ?_) | (refine Hold.intro fun _ => ?_) | (refine And.intro ?_ ?_))
        refine ⟨k + 1, tle_chain rfl ?_, ?_, ⟨by omega, by rw [hS]⟩, by omega⟩
        · simp [okAll, okv]
        · rw [hS]; exact (by (try simp -dsimp only [hpush_noH, hpush_hps, hps_over]); refine hle_hpsb ?_; simp -dsimp [allK, Ob, siL, siS3, siS4, siS5, siS9, siS10, siA, siB, siC, siF, siK, siCap, hps_app, List.cons_append, List.nil_append]; repeat' (first | (refine And.intro ?_ ?_) | (refine sLe.same ?_ ?_ <;> (simp; done)) | (refine sLe.clear ?_ ?_ <;> (first | (simp; done) | (simp; omega))) | (refine sLe.drop 1 ?_ ?_ ?_ <;> (simp; done))))
      · have hdec := siE_dec c g tw (k : Int)
        simp -dsimp [SS.add, Ob, siL, siS3, siS4, siS5, siS9, siS10, siA, siB, siC, siF, siK, siCap, hps_app, List.cons_append, List.nil_append, ri, Ca.row, Gu.row, Sp.row] at hgo2
        simp -dsimp [hki]
        repeat' (first | omega | (simp -dsimp [E33, ri, cellp, ints, Ob, siL, siS3, siS4, siS5, siS9, siS10, siA, siB, siC, siF, siK, siCap, hps_app, List.cons_append, List.nil_append, hki, hk1, hlti, hlt', hg, hg', hv, wk, hdec, nf2_nil, nf2_sl, hSP, hsb, hwn8, hgo2, hl2, ht2, Ca.row, Gu.row, Sp.row]) | (refine Also.intro ?_ fun _ => ?_) | (refine Hold.intro fun _ => ?_) | (refine And.intro ?_ ?_))
        refine ⟨k + 1, tle_chain rfl ?_, ?_, ⟨by omega, by rw [hS]⟩, by omega⟩
        · simp [okAll, okv]
        · rw [hS]; exact (by (try simp -dsimp only [hpush_noH, hpush_hps, hps_over]); refine hle_hpsb ?_; simp -dsimp [allK, Ob, siL, siS3, siS4, siS5, siS9, siS10, siA, siB, siC, siF, siK, siCap, hps_app, List.cons_append, List.nil_append]; repeat' (first | (refine And.intro ?_ ?_) | (refine sLe.same ?_ ?_ <;> (simp; done)) | (refine sLe.clear ?_ ?_ <;> (first | (simp; done) | (simp; omega))) | (refine sLe.drop 1 ?_ ?_ ?_ <;> (simp; done))))
theorem ok33 : ∀ M, FnOK Tryz.prog 33 (.heap (sitS M))
  | 0 => { call := run_call (fn := Tryz.f33) (by kernel_rfl) (by kernel_rfl) rfl, iter := fun S' hS => (by cases hS), pure := fun S' hS => (by cases hS), heap := fun S' hS => (by
      cases hS
      intro args h hc
      obtain ⟨_, _, _, hp, _⟩ := mkH_inv hc; exact absurd hp.lt (by omega)) }
  | M + 1 => heap_fn (E := E33 M) rfl (.cons ok34 (.cons ok35 (.cons (ok33 M) .nil))) (ok := []) (fn := Tryz.f33) (by kernel_rfl) (by kernel_rfl) (by kernel_rfl) (by kernel_rfl) rfl (fun args h hc => by obtain ⟨_, rfl, _⟩ := mkH_inv hc; simp [siCap]) (b33 M)
end Go.Sx

