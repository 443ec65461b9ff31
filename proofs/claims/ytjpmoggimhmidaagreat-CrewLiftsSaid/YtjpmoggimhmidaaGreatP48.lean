/- Crew: the weight and the moment with the least and with the most fuel. No conditions. -/
import Derived.Test.YtjpmoggimhmidaaGreatP47
set_option linter.unusedSimpArgs false
set_option linter.unusedVariables false
set_option linter.unusedSectionVars false
set_option linter.unusedSimpArgs false
set_option linter.unusedSectionVars false
set_option maxRecDepth 100000
set_option maxHeartbeats 2000000
namespace Go.Sx
open Go.Proofs
attribute [local irreducible] HLe

/-! a weight with its moment -/
/-- Numbers far from the ends. -/
def Far0 (n : Int) : Prop := -1000000000000 ≤ n ∧ n ≤ 1000000000000
def wmB (x y : Int) (ty : TypeId) : Blk := { z := 2, els := [[.int .i64 x, .int .i64 y]], ty := ty }
abbrev AdD := Nat × Nat × Int × Int × Int × Int
def adE (d : AdD) : List V := [.bptr d.1 d.2.1 1 0 0, .int .i64 d.2.2.1, .int .i64 d.2.2.2.1]
def adH (d : AdD) (h : Hp) : Prop := hget h d.1 d.2.1 = some (wmB d.2.2.2.2.1 d.2.2.2.2.2 118)
theorem ad_inj (a b : AdD) (h : Hp) (e : adE a = adE b) (h1 : adH a h) (h2 : adH b h) : a = b := by
  obtain ⟨a1, a2, a3, a4, a5, a6⟩ := a; obtain ⟨b1, b2, b3, b4, b5, b6⟩ := b
  simp only [adE, List.cons.injEq, V.bptr.injEq, V.int.injEq, true_and, and_true] at e
  obtain ⟨⟨rfl, rfl⟩, rfl, rfl⟩ := e
  rw [adH] at h1 h2
  rw [h1] at h2
  simp only [wmB, Option.some.injEq, Blk.mk.injEq, List.cons.injEq, V.int.injEq, true_and, and_true] at h2
  rw [h2.1, h2.2]
noncomputable abbrev addS : HSpec := mkH adE adH (fun d => Far0 d.2.2.1 ∧ Far0 (d.2.2.1 * d.2.2.2.1) ∧ Far0 d.2.2.2.2.1 ∧ Far0 d.2.2.2.2.2) (fun _ => .tup []) (fun d h => hset h d.1 d.2.1 (wmB (d.2.2.2.2.1 + d.2.2.1) (d.2.2.2.2.2 + d.2.2.1 * d.2.2.2.1) 118))
theorem addS_go {h : Hp} {s i : Nat} {w a x y : Int} (hb : hget h s i = some (wmB x y 118)) : addS.go [.bptr s i 1 0 0, .int .i64 w, .int .i64 a] h = ⟨Far0 w ∧ Far0 (w * a) ∧ Far0 x ∧ Far0 y, .tup [], hset h s i (wmB (x + w) (y + w * a) 118)⟩ := mkH_at ad_inj (d := (s, i, w, a, x, y)) hb
theorem addS_inv {args : List V} {h : Hp} (hc : (addS.go args h).c) : ∃ s i w a x y, args = [.bptr s i 1 0 0, .int .i64 w, .int .i64 a] ∧ hget h s i = some (wmB x y 118) ∧ (Far0 w ∧ Far0 (w * a) ∧ Far0 x ∧ Far0 y) ∧ addS.go args h = ⟨Far0 w ∧ Far0 (w * a) ∧ Far0 x ∧ Far0 y, .tup [], hset h s i (wmB (x + w) (y + w * a) 118)⟩ := by
  obtain ⟨⟨s, i, w, a, x, y⟩, rfl, h1, h2, h3⟩ := mkH_inv hc
  exact ⟨s, i, w, a, x, y, rfl, h1, h2, h3⟩
noncomputable abbrev E87 : Env := { P := Tryz.prog, fn := tbl [], own := [], key := 8700, nt := 24 }
theorem b87 : HeapBody E87 [] Tryz.f87 addS := by
  intro args h hc
  obtain ⟨s, i, w, a, x, y, rfl, hb, ⟨⟨h1, h2⟩, ⟨h3, h4⟩, ⟨h5, h6⟩, ⟨h7, h8⟩⟩, hgo⟩ := addS_inv hc
  rw [hgo]
  clear hgo hc
  have w1 : IntKind.wrap .i64 (x + w) = x + w := wrap_id (by omega) (by omega)
  have w2 : IntKind.wrap .i64 (w * a) = w * a := wrap_id (by omega) (by omega)
  have w3 : IntKind.wrap .i64 (y + w * a) = y + w * a := wrap_id (by omega) (by omega)
  have hs := fun B => hget_hset_eq (B := B) hb
  simp -dsimp [Tryz.f87, E87, wmB] at hb hs ⊢
  repeat' (first | omega | (simp -dsimp [E87, ri, cellp, ints, hb, hs, hset_hset, w1, w2, w3, hle_refl]) | (refine Also.intro ?_ fun _ => ?_) | (refine Hold.intro fun _ => ?_) | (refine And.intro ?_ ?_))
theorem ok87 : FnOK Tryz.prog 87 (.heap addS) := heap_fn (E := E87) rfl LOK.nil (ok := []) (fn := Tryz.f87) (by kernel_rfl) (by kernel_rfl) (by kernel_rfl) (by kernel_rfl) rfl (fun args h hc => by obtain ⟨s, i, w, a, x, y, rfl, _⟩ := addS_inv hc; simp) b87

theorem add_1 (L : List (Nat × Site)) (H : Hp) (b : Nat) (x y w a : Int) : addS.go [.bptr 8608 b 1 0 0, .int .i64 w, .int .i64 a] (hps ((8608, { base := b, blks := [{ z := 2, els := [[.int .i64 x, .int .i64 y]], ty := 118 }] }) :: L) H) = ⟨Far0 w ∧ Far0 (w * a) ∧ Far0 x ∧ Far0 y, .tup [], hps ((8608, { base := b, blks := [{ z := 2, els := [[.int .i64 (x + w), .int .i64 (y + w * a)]], ty := 118 }] }) :: L) H⟩ := by
  rw [addS_go (x := x) (y := y) (by simp [wmB])]
  congr 1
  rw [hset_hps, hps_over]
  simp [wmB]
theorem add_2 (S : Site) (L : List (Nat × Site)) (H : Hp) (b : Nat) (x y w a : Int) : addS.go [.bptr 8608 b 1 0 0, .int .i64 w, .int .i64 a] (hps ((8610, S) :: (8608, { base := b, blks := [{ z := 2, els := [[.int .i64 x, .int .i64 y]], ty := 118 }] }) :: L) H) = ⟨Far0 w ∧ Far0 (w * a) ∧ Far0 x ∧ Far0 y, .tup [], hps ((8610, S) :: (8608, { base := b, blks := [{ z := 2, els := [[.int .i64 (x + w), .int .i64 (y + w * a)]], ty := 118 }] }) :: L) H⟩ := by
  rw [addS_go (x := x) (y := y) (by simp [wmB])]
  congr 1
  rw [hset_hps]
  funext k
  by_cases h1 : k = 8608
  · simp [h1, wmB]
  · simp [h1]
/-! the two ends -/
@[simp] def enE (d : Ca × List Gu × List Int × Sp) : List V := [.ip 2 [d.2.2.2.row] 0 0, .ip 6 [d.1.row] 0 0, .ip 1 [[.sl 4 (d.2.1.map Gu.row)]] 0 0, .ip 1 [[.sl 1 (d.2.2.1.map ri)]] 0 0]
theorem enE_inj (a b : Ca × List Gu × List Int × Sp) (h : enE a = enE b) : a = b := by
  obtain ⟨a1, a2, a3, a4⟩ := a; obtain ⟨b1, b2, b3, b4⟩ := b
  simp only [enE, List.cons.injEq, V.ip.injEq, V.sl.injEq, true_and, and_true] at h
  rw [Ca.row_inj _ _ h.2.1, mapRow_inj Gu.row_inj h.2.2.1, map_ri_inj h.2.2.2, Sp.row_inj _ _ h.1]
/-- Cabins, guests, fuel and a seating that are right. -/
structure PFit (d : Ca × List Gu × List Int × Sp) : Prop where
  f : LFit d.1 d.2.1 d.2.2.2
  s : rightB d.1 d.2.1 d.2.2.1 = true
noncomputable abbrev endsS : PSpec := mkP pcE (fun _ => True) fun d => .fn 86 (enE d)
noncomputable abbrev E59 : Env := { P := Tryz.prog, fn := tbl [], own := [], key := 5900, nt := 10, frz := [(1, [4, 50004, 5, 50005, 6, 50006, 7, 50007])] }
theorem b59 : PureBody E59 [] Tryz.f59 endsS := by
  refine pb ?_
  rintro ⟨c, l, s, f⟩ _
  simp -dsimp [Tryz.f59, E59, Ca.row, Sp.row]
  repeat' (first | omega | (simp -dsimp [E59, ri, cellp, ints, Ca.row, Sp.row]) | (refine Also.intro ?_ fun _ => ?_) | (refine Hold.intro fun _ => ?_) | (refine And.intro ?_ ?_))
theorem ok59 : FnOK Tryz.prog 59 (.pure endsS) := pure_fn (E := E59) rfl LOK.nil (ok := []) (fn := Tryz.f59) (by kernel_rfl) (by kernel_rfl) (by kernel_rfl) (by kernel_rfl) rfl (fun _ _ => by simp) b59
/-- What is yielded with so much fuel. -/
def wmV (c : Ca) (l : List Gu) (s : List Int) (x : Int) : List V := [.agg [.int .i64 (wgt c l x), .int .i64 (mom c l s x)]]
def endL (d : Ca × List Gu × List Int × Sp) : List (List V) := [wmV d.1 d.2.1 d.2.2.1 d.2.2.2.lo, wmV d.1 d.2.1 d.2.2.1 d.2.2.2.hi]
open Classical in
noncomputable def endDec (caps : List V) (_ : Hp) : Prop × List (List V) := if x : ∃ d, caps = enE d then (PFit x.choose, endL x.choose) else (False, [])
theorem endDec_at (d : Ca × List Gu × List Int × Sp) (h : Hp) : endDec (enE d) h = (PFit d, endL d) := by
  have hx : ∃ d', enE d = enE d' := ⟨d, rfl⟩
  have e : hx.choose = d := (enE_inj _ _ hx.choose_spec).symm
  simp only [endDec, dif_pos hx, e]
theorem endDec_inv {caps : List V} {h : Hp} (hc : (endDec caps h).1) : ∃ d, caps = enE d ∧ PFit d ∧ (endDec caps h).2 = endL d := by
  simp only [endDec] at hc ⊢
  by_cases hx : ∃ d, caps = enE d
  · rw [dif_pos hx] at hc ⊢
    exact ⟨_, hx.choose_spec, hc, rfl⟩
  · rw [dif_neg hx] at hc; exact hc.elim
noncomputable def endI : Nat → HSpec → HSpec := itS [8608, 8610] [] endDec
theorem endI_inv {l : Nat} {Y : HSpec} {args : List V} {h : Hp} (hc : ((endI l Y).go args h).c) : ∃ d, args = .yld l :: enE d ∧ Loc Y [8608, 8610] [] ∧ (∀ k ∈ [8608, 8610], h k = { base := (h k).base, blks := [] }) ∧ PFit d ∧ (feed Y (endL d) h).1 ∧
    ((endI l Y).go args h).v = .tup [] ∧ ((endI l Y).go args h).h = hps ([8608, 8610].map fun k => (k, { base := (h k).base + 1000000, blks := [] })) (feed Y (endL d) h).2 := by
  obtain ⟨caps, rfl, h2, h3, h4, h5, h6, h7⟩ := its_inv hc
  obtain ⟨d, rfl, k1, k2⟩ := endDec_inv h4
  rw [k2] at h5 h7
  exact ⟨d, rfl, h2, h3, k1, h5, h6, h7⟩
theorem kp90 : ∀ f S, tbl [(87, .heap addS)] f = some (.heap S) → ∀ args h, (S.go args h).c → (h YS).blks = [] → (S.go args h).h YS = h YS := by
  intro f S hf args h hc hy
  simp only [tbl_cons, tbl_nil] at hf
  split at hf
  · cases hf
    obtain ⟨s, i, w, a, x, y, _, hb, _, hgo⟩ := addS_inv hc
    rw [hgo]
    have : s ≠ YS := by
      rintro rfl
      unfold hget at hb
      rw [hy] at hb
      split at hb <;> simp at hb
    simp only [hset, Ne.symm this, if_false]
  · cases hf
/-- Between two yields. -/
structure EnO (Y : HSpec) (FH : Hp) (xs : List (List V)) (n b1 b2 : Nat) where
  i : Nat
  H : Hp
  b : Nat
  c : Nat
  hi : i ≤ 2
  hf : (feed Y (xs.drop i) H).1 ∧ (feed Y (xs.drop i) H).2 = FH
  hb : b ≤ b1 + i ∧ c ≤ b2 + i * n
theorem seat_of {c : Ca} {l : List Gu} {s : List Int} (h : rightB c l s = true) : s.length = l.length ∧ ∀ k, k < l.length → ∃ q : Nat, s[k]? = some (q : Int) ∧ q < c.st.length := by
  simp only [rightB, Bool.and_eq_true, decide_eq_true_eq, List.all_eq_true, List.mem_range] at h
  refine ⟨h.1, fun k hk => ?_⟩
  have h2 := h.2 k hk
  simp only [seatOk, sitsB, Bool.and_eq_true, decide_eq_true_eq] at h2
  have hks : k < s.length := by omega
  have e : s.getD k 0 = s[k] := by simp [List.getD, hks]
  rw [e] at h2
  refine ⟨s[k].toNat, ?_, by omega⟩
  rw [List.getElem?_eq_getElem hks]
  congr 1; omega
noncomputable abbrev E86 : Env := { P := Tryz.prog, fn := tbl [(87, .heap addS)], own := [], key := 8600, nt := 53 }
theorem b86 : IterBody E86 [] Tryz.f86 endI := by
  intro l Y args h hc hyb hyf
  obtain ⟨⟨c, g, s, f⟩, rfl, hloc, hfr, ⟨hL, hR⟩, hfd, hv, hh⟩ := endI_inv hc
  simp only at hL hR
  rw [hv, hh]
  clear hv hh hc
  have f1 := hfr 8608 (by simp)
  have f2 := hfr 8610 (by simp)
  obtain ⟨FH, hFH⟩ : ∃ FH, (feed Y (endL (c, g, s, f)) h).2 = FH := ⟨_, rfl⟩
  rw [hFH]
  simp only [List.map_cons, List.map_nil]
  generalize hb1 : (h 8608).base = b1 at *
  generalize hb2 : (h 8610).base = b2 at *
  have hself : hps [(8608, { base := b1, blks := [] }), (8610, { base := b2, blks := [] })] h = h := hps_self (by
    intro k hk
    simp at hk
    rcases hk with rfl | rfl
    · rw [f1]; rfl
    · rw [f2]; rfl)
  rw [← hself]
  obtain ⟨hsl, hsq⟩ := seat_of hR
  have hn8 : g.length ≤ 8 := by have := hL.n; have := hL.cf.n; omega
  have hemp := hL.cf.emp
  have harm := hL.cf.arm
  have hfarm := hL.cf.farm
  have hff := hL.ff
  have m1 := mul_bd (a := c.emp) (A := 100000) (by omega) harm
  simp -dsimp [Tryz.f86, E86, Ca.row, Sp.row]
  repeat' (first | omega | (simp -dsimp [E86, ri, cellp, ints, Ca.row, Sp.row]) | (refine Also.intro ?_ fun _ => ?_) | (refine Hold.intro fun _ => ?_) | (refine And.intro ?_ ?_))
  refine awp_loop [17, 18, 7, 8, 19, 20, 21, 22, 23, 24, 25, 26, 27, 28, 29, 30, 10, 9, 31, 32, 33, 34, 35, 36, 37, 38, 39, 40, 41, 42, 43, 44, 45, 46, 47, 48, 49, 50, 51, 52, 16] (fun q : EnO Y FH (endL (c, g, s, f)) g.length b1 b2 => [(16, (true, .int .i64 (q.i : Nat)))])
    (fun q => hps [(8608, { base := q.b, blks := [] }), (8610, { base := q.c, blks := [] })] q.H) (fun q => 2 - q.i) { i := 0, H := h, b := b1, c := b2, hi := by omega, hf := ⟨hfd, hFH⟩, hb := by omega } ?_ ?_ ?_
  · simp [okAll, okv]
  · exact (by (try simp -dsimp only [hpush_noH, hpush_hps, hps_over]); refine hle_hpsb ?_; simp -dsimp [allK, ]; repeat' (first | (refine And.intro ?_ ?_) | (refine sLe.same ?_ ?_ <;> (simp; done)) | (refine sLe.clear ?_ ?_ <;> (first | (simp; done) | (simp; omega))) | (refine sLe.drop 1 ?_ ?_ ?_ <;> (simp; done))))
  clear hfd hFH hself f1 f2 hfr
  rintro ⟨i, H, b, e, hi, ⟨hfd, hFH⟩, hbb, hee⟩
  simp only
  have hdr : i = 2 ∨ i = 0 ∨ i = 1 := by omega
  rcases hdr with rfl | hdr
  · have he : feed Y ((endL (c, g, s, f)).drop 2) H = (True, H) := rfl
    rw [he] at hFH
    subst hFH
    simp -dsimp []
    repeat' (first | omega | (simp -dsimp [E86, ri, cellp, ints, *]) | (refine Also.intro ?_ fun _ => ?_) | (refine Hold.intro fun _ => ?_) | (refine And.intro ?_ ?_))
    exact (by (try simp -dsimp only [hpush_noH, hpush_hps, hps_over]); refine hle_hpsb ?_; simp -dsimp [allK, ]; repeat' (first | (refine And.intro ?_ ?_) | (refine sLe.same ?_ ?_ <;> (simp; done)) | (refine sLe.clear ?_ ?_ <;> (first | (simp; done) | (simp; omega))) | (refine sLe.drop 1 ?_ ?_ ?_ <;> (simp; done))))
  rcases hdr with rfl | rfl
  · have hdrop : (endL (c, g, s, f)).drop 0 = wmV c g s f.lo :: (endL (c, g, s, f)).drop 1 := rfl
    obtain ⟨x, hx⟩ : ∃ x, f.lo = x := ⟨_, rfl⟩
    have hxb : 0 ≤ x ∧ x ≤ 100000 := by omega
    rw [hx] at hdrop
    clear hff
    rw [hdrop] at hfd hFH
    obtain ⟨hc, bb, hv, ht, hf⟩ := feed_step hfd
    have m3 := mul_bd (a := x) (A := 100000) (by omega) hfarm
    simp -dsimp []
    repeat' (first | omega | (simp -dsimp [E86, ri, cellp, ints, Ca.row, Sp.row, hx, add_1, Far0]) | (refine Also.intro ?_ fun _ => ?_) | (refine Hold.intro fun _ => ?_) | (refine And.intro ?_ ?_))
    refine awp_loop [27, 28, 29, 30, 10, 9, 31, 32, 33, 34, 35, 36, 37, 38, 39, 40, 41, 42, 43, 26] (fun k : { k : Nat // k ≤ g.length } => [(26, (true, .int .i64 k.1))])
      (fun k => hps [(8608, { base := b, blks := [{ z := 2, els := [[.int .i64 (c.emp + wTo g k.1), .int .i64 (c.emp * c.arm + mTo c g s k.1)]], ty := 118 }] }), (8610, { base := e + k.1, blks := [] })] H) (fun k => g.length - k.1) ⟨0, by omega⟩ ?_ ?_ ?_
    · simp [okAll, okv]
    · exact (by (try simp -dsimp only [hpush_noH, hpush_hps, hps_over]); refine hle_hpsb ?_; simp -dsimp [allK, wTo, mTo]; repeat' (first | (refine And.intro ?_ ?_) | (refine sLe.same ?_ ?_ <;> (simp; done)) | (refine sLe.clear ?_ ?_ <;> (first | (simp; done) | (simp; omega))) | (refine sLe.drop 1 ?_ ?_ ?_ <;> (simp; done))))
    rintro ⟨k, hk⟩
    dsimp only
    have wb := wTo_bd hL.gf k hk
    have mb := mTo_bd hL.cf hL.gf s k hk
    by_cases hk1 : k < g.length
    · have hki : (k : Int) < g.length := by omega
      have wk : IntKind.wrap .i64 ((k : Int) + 1) = (k + 1 : Nat) := wrap_id (by omega) (by omega)
      obtain ⟨u, hu⟩ : ∃ u, g[k]? = some u := ⟨_, List.getElem?_eq_getElem hk1⟩
      have hu' : g[k] = u := (List.getElem?_eq_some_iff.1 hu).2
      have hug : guAt g k = u := by simp [guAt, List.getD, hu]
      have hub := guAt_bd hL.gf hk1
      rw [hug] at hub
      obtain ⟨q, hq, hqn⟩ := hsq k hk1
      have hks : k < s.length := by omega
      have hksi : (k : Int) < s.length := by omega
      have hq' : s[k] = q := (List.getElem?_eq_some_iff.1 hq).2
      obtain ⟨v, hv0⟩ : ∃ v, c.st[q]? = some v := ⟨_, List.getElem?_eq_getElem hqn⟩
      have hv0' : c.st[q] = v := (List.getElem?_eq_some_iff.1 hv0).2
      have hqi : (q : Int) < c.st.length := by omega
      have harm2 : armAt c s k = v.arm := by simp [armAt, List.getD, hq, hv0]
      have hab := armAt_bd hL.cf s k
      rw [harm2] at hab
      have m4 := mul_bd (a := u.w) (A := 500) (by omega) hab
      have hwt : wTo g (k + 1) = wTo g k + u.w := by rw [wTo, hug]
      have hmt : mTo c g s (k + 1) = mTo c g s k + u.w * v.arm := by rw [mTo, hug, harm2]
      simp -dsimp [hki]
      repeat' (first | omega | (simp -dsimp [E86, ri, cellp, ints, hki, hk1, hks, hksi, hqi, hqn, hu, hu', hq, hq', hv0, hv0', wk, add_2, Far0, Ca.row, Sp.row, Gu.row, Se.row]) | (refine Also.intro ?_ fun _ => ?_) | (refine Hold.intro fun _ => ?_) | (refine And.intro ?_ ?_))
      refine ⟨k + 1, tle_chain rfl ?_, ?_, by omega, by omega⟩
      · simp [okAll, okv]
      · exact (by (try simp -dsimp only [hpush_noH, hpush_hps, hps_over]); refine hle_hpsb ?_; simp -dsimp [allK, hwt, hmt, Int.add_assoc]; repeat' (first | (refine And.intro ?_ ?_) | (refine sLe.same ?_ ?_ <;> (simp; done)) | (refine sLe.clear ?_ ?_ <;> (first | (simp; done) | (simp; omega))) | (refine sLe.drop 1 ?_ ?_ ?_ <;> (simp; done))))
    · have hkn : ¬ (k : Int) < g.length := by omega
      have hke : k = g.length := by omega
      subst hke
      obtain ⟨H', hH'⟩ : ∃ H', (Y.go (wmV c g s x) H).h = H' := ⟨_, rfl⟩
      rw [hH'] at hf ht
      have hgo : ∀ S1 S2, Y.go (wmV c g s x) (hps [(8608, S1), (8610, S2)] H) = ⟨True, .bool bb, hps [(8608, S1), (8610, S2)] H'⟩ := fun S1 S2 => by
        have := hloc.go hc hv [(8608, S1), (8610, S2)]
        rw [hH'] at this; exact this
      rw [wmV, wgt, mom] at hgo
      cases bb with
      | false =>
        rw [hf rfl] at hFH
        subst hFH
        simp -dsimp [hkn]
        repeat' (first | omega | (simp -dsimp [E86, ri, cellp, ints, hkn, add_1, Far0, hx, hgo, Ca.row, Sp.row]) | (refine Also.intro ?_ fun _ => ?_) | (refine Hold.intro fun _ => ?_) | (refine And.intro ?_ ?_))
        exact (by (try simp -dsimp only [hpush_noH, hpush_hps, hps_over]); refine hle_hpsb ?_; simp -dsimp [allK, ]; repeat' (first | (refine And.intro ?_ ?_) | (refine sLe.same ?_ ?_ <;> (simp; done)) | (refine sLe.clear ?_ ?_ <;> (first | (simp; done) | (simp; omega))) | (refine sLe.drop 1 ?_ ?_ ?_ <;> (simp; done))))
      | true =>
        obtain ⟨hf1, hf2⟩ := ht rfl
        rw [hf2] at hFH
        have w1 : IntKind.wrap .i64 1 = 1 := wrap_id (by omega) (by omega)
        simp -dsimp [hkn]
        repeat' (first | omega | (simp -dsimp [E86, ri, cellp, ints, hkn, add_1, Far0, hx, hgo, w1, Ca.row, Sp.row]) | (refine Also.intro ?_ fun _ => ?_) | (refine Hold.intro fun _ => ?_) | (refine And.intro ?_ ?_))
        refine ⟨{ i := 1, H := H', b := b + 1, c := e + g.length, hi := by omega, hf := ⟨hf1, hFH⟩, hb := by omega }, tle_kept (kept_upds rfl (kept_forget rfl (kept_upds rfl kept_base))) ?_, (by (try simp -dsimp only [hpush_noH, hpush_hps, hps_over]); refine hle_hpsb ?_; simp -dsimp [allK, ]; repeat' (first | (refine And.intro ?_ ?_) | (refine sLe.same ?_ ?_ <;> (simp; done)) | (refine sLe.clear ?_ ?_ <;> (first | (simp; done) | (simp; omega))) | (refine sLe.drop 1 ?_ ?_ ?_ <;> (simp; done)))), by first | omega | (simp only; omega) | simp⟩
        simp [okAll, okv, w1]
  · have hdrop : (endL (c, g, s, f)).drop 1 = wmV c g s f.hi :: (endL (c, g, s, f)).drop 2 := rfl
    obtain ⟨x, hx⟩ : ∃ x, f.hi = x := ⟨_, rfl⟩
    have hxb : 0 ≤ x ∧ x ≤ 100000 := by omega
    rw [hx] at hdrop
    clear hff
    rw [hdrop] at hfd hFH
    obtain ⟨hc, bb, hv, ht, hf⟩ := feed_step hfd
    have m3 := mul_bd (a := x) (A := 100000) (by omega) hfarm
    simp -dsimp []
    repeat' (first | omega | (simp -dsimp [E86, ri, cellp, ints, Ca.row, Sp.row, hx, add_1, Far0]) | (refine Also.intro ?_ fun _ => ?_) | (refine Hold.intro fun _ => ?_) | (refine And.intro ?_ ?_))
    refine awp_loop [27, 28, 29, 30, 10, 9, 31, 32, 33, 34, 35, 36, 37, 38, 39, 40, 41, 42, 43, 26] (fun k : { k : Nat // k ≤ g.length } => [(26, (true, .int .i64 k.1))])
      (fun k => hps [(8608, { base := b, blks := [{ z := 2, els := [[.int .i64 (c.emp + wTo g k.1), .int .i64 (c.emp * c.arm + mTo c g s k.1)]], ty := 118 }] }), (8610, { base := e + k.1, blks := [] })] H) (fun k => g.length - k.1) ⟨0, by omega⟩ ?_ ?_ ?_
    · simp [okAll, okv]
    · exact (by (try simp -dsimp only [hpush_noH, hpush_hps, hps_over]); refine hle_hpsb ?_; simp -dsimp [allK, wTo, mTo]; repeat' (first | (refine And.intro ?_ ?_) | (refine sLe.same ?_ ?_ <;> (simp; done)) | (refine sLe.clear ?_ ?_ <;> (first | (simp; done) | (simp; omega))) | (refine sLe.drop 1 ?_ ?_ ?_ <;> (simp; done))))
    rintro ⟨k, hk⟩
    dsimp only
    have wb := wTo_bd hL.gf k hk
    have mb := mTo_bd hL.cf hL.gf s k hk
    by_cases hk1 : k < g.length
    · have hki : (k : Int) < g.length := by omega
      have wk : IntKind.wrap .i64 ((k : Int) + 1) = (k + 1 : Nat) := wrap_id (by omega) (by omega)
      obtain ⟨u, hu⟩ : ∃ u, g[k]? = some u := ⟨_, List.getElem?_eq_getElem hk1⟩
      have hu' : g[k] = u := (List.getElem?_eq_some_iff.1 hu).2
      have hug : guAt g k = u := by simp [guAt, List.getD, hu]
      have hub := guAt_bd hL.gf hk1
      rw [hug] at hub
      obtain ⟨q, hq, hqn⟩ := hsq k hk1
      have hks : k < s.length := by omega
      have hksi : (k : Int) < s.length := by omega
      have hq' : s[k] = q := (List.getElem?_eq_some_iff.1 hq).2
      obtain ⟨v, hv0⟩ : ∃ v, c.st[q]? = some v := ⟨_, List.getElem?_eq_getElem hqn⟩
      have hv0' : c.st[q] = v := (List.getElem?_eq_some_iff.1 hv0).2
      have hqi : (q : Int) < c.st.length := by omega
      have harm2 : armAt c s k = v.arm := by simp [armAt, List.getD, hq, hv0]
      have hab := armAt_bd hL.cf s k
      rw [harm2] at hab
      have m4 := mul_bd (a := u.w) (A := 500) (by omega) hab
      have hwt : wTo g (k + 1) = wTo g k + u.w := by rw [wTo, hug]
      have hmt : mTo c g s (k + 1) = mTo c g s k + u.w * v.arm := by rw [mTo, hug, harm2]
      simp -dsimp [hki]
      repeat' (first | omega | (simp -dsimp [E86, ri, cellp, ints, hki, hk1, hks, hksi, hqi, hqn, hu, hu', hq, hq', hv0, hv0', wk, add_2, Far0, Ca.row, Sp.row, Gu.row, Se.row]) | (refine Also.intro ?_ fun _ => ?_) | (refine Hold.intro fun _ => ?_) | (refine And.intro ?_ ?_))
      refine ⟨k + 1, tle_chain rfl ?_, ?_, by omega, by omega⟩
      · simp [okAll, okv]
      · exact (by (try simp -dsimp only [hpush_noH, hpush_hps, hps_over]); refine hle_hpsb ?_; simp -dsimp [allK, hwt, hmt, Int.add_assoc]; repeat' (first | (refine And.intro ?_ ?_) | (refine sLe.same ?_ ?_ <;> (simp; done)) | (refine sLe.clear ?_ ?_ <;> (first | (simp; done) | (simp; omega))) | (refine sLe.drop 1 ?_ ?_ ?_ <;> (simp; done))))
    · have hkn : ¬ (k : Int) < g.length := by omega
      have hke : k = g.length := by omega
      subst hke
      obtain ⟨H', hH'⟩ : ∃ H', (Y.go (wmV c g s x) H).h = H' := ⟨_, rfl⟩
      rw [hH'] at hf ht
      have hgo : ∀ S1 S2, Y.go (wmV c g s x) (hps [(8608, S1), (8610, S2)] H) = ⟨True, .bool bb, hps [(8608, S1), (8610, S2)] H'⟩ := fun S1 S2 => by
        have := hloc.go hc hv [(8608, S1), (8610, S2)]
        rw [hH'] at this; exact this
      rw [wmV, wgt, mom] at hgo
      cases bb with
      | false =>
        rw [hf rfl] at hFH
        subst hFH
        simp -dsimp [hkn]
        repeat' (first | omega | (simp -dsimp [E86, ri, cellp, ints, hkn, add_1, Far0, hx, hgo, Ca.row, Sp.row]) | (refine Also.intro ?_ fun _ => ?_) | (refine Hold.intro fun _ => ?_) | (refine And.intro ?_ ?_))
        exact (by (try simp -dsimp only [hpush_noH, hpush_hps, hps_over]); refine hle_hpsb ?_; simp -dsimp [allK, ]; repeat' (first | (refine And.intro ?_ ?_) | (refine sLe.same ?_ ?_ <;> (simp; done)) | (refine sLe.clear ?_ ?_ <;> (first | (simp; done) | (simp; omega))) | (refine sLe.drop 1 ?_ ?_ ?_ <;> (simp; done))))
      | true =>
        obtain ⟨hf1, hf2⟩ := ht rfl
        rw [hf2] at hFH
        have w1 : IntKind.wrap .i64 2 = 2 := wrap_id (by omega) (by omega)
        simp -dsimp [hkn]
        repeat' (first | omega | (simp -dsimp [E86, ri, cellp, ints, hkn, add_1, Far0, hx, hgo, w1, Ca.row, Sp.row]) | (refine Also.intro ?_ fun _ => ?_) | (refine Hold.intro fun _ => ?_) | (refine And.intro ?_ ?_))
        refine ⟨{ i := 2, H := H', b := b + 1, c := e + g.length, hi := by omega, hf := ⟨hf1, hFH⟩, hb := by omega }, tle_kept (kept_upds rfl (kept_forget rfl (kept_upds rfl kept_base))) ?_, (by (try simp -dsimp only [hpush_noH, hpush_hps, hps_over]); refine hle_hpsb ?_; simp -dsimp [allK, ]; repeat' (first | (refine And.intro ?_ ?_) | (refine sLe.same ?_ ?_ <;> (simp; done)) | (refine sLe.clear ?_ ?_ <;> (first | (simp; done) | (simp; omega))) | (refine sLe.drop 1 ?_ ?_ ?_ <;> (simp; done)))), by first | omega | (simp only; omega) | simp⟩
        simp [okAll, okv, w1]
theorem ok86 : FnOK Tryz.prog 86 (.iter endI) := iter_fn (E := E86) rfl (.cons ok87 .nil) (ok := []) (fn := Tryz.f86) (by kernel_rfl) (by kernel_rfl) (by kernel_rfl) (fun _ _ => by kernel_rfl) rfl (fun l Y args h hc => by obtain ⟨_, rfl, _⟩ := endI_inv hc; simp) kp90 b86
end Go.Sx

