/- A part of a proof; no conditions. -/
import Derived.Test.YtnpdjaikmdagmaaGreatDoorP18
set_option linter.unusedSimpArgs false
set_option linter.unusedVariables false
set_option linter.unusedSectionVars false
section
/- Parts: a copy of the reference's state. No conditions. -/
set_option linter.unusedSimpArgs false
set_option linter.unusedSectionVars false
set_option maxRecDepth 100000
set_option maxHeartbeats 8000000
namespace Go.Sx
open Go.Proofs
attribute [local irreducible] HLe
attribute [local simp] hps_app

@[simp] def stE (t : RS) : List V := [.agg t.row]
theorem stE_inj (a b : RS) (h : stE a = stE b) : a = b := RS.row_inj _ _ (by simpa using h)
theorem stE_dec (t : RS) : decC stE [.agg t.row] = t := decC_eq stE_inj t
theorem stE_dec' (t : RS) : decC stE [.agg [.sl 2 (t.used.map cycV), .sl 2 (t.whr.map cycV), .sl 1 (t.iss.map rb), snV t.since, dnV t.done]] = t := stE_dec t
def FreshC (h : Hp) : Prop := ∀ k ∈ cpK, h k = { base := 0, blks := [] }
abbrev cpOwn : List Nat := [11601, 11602, 11603, 11630, 11641]
structure RS.Cp (t : RS) : Prop where
  used : t.used.length ≤ 1000
  whr : t.whr.length ≤ 1000
  iss : t.iss.length ≤ 1000
  since : t.since.length ≤ 1000
  done : t.done.length = t.since.length
  sincer : ∀ l ∈ t.since, l.length ≤ 1000
  doner : ∀ l ∈ t.done, l.length ≤ 1000
theorem RS.Wf.cp {t : RS} {r : Reg} (h : t.Wf r) : t.Cp := by
  obtain ⟨v1, v2, v3, _⟩ := valid_facts h.val
  exact ⟨by rw [h.used]; omega, by rw [h.whr]; omega, by rw [h.iss]; omega, by rw [h.since]; omega, by rw [h.done, h.since], fun l hl => by rw [h.sincer l hl]; omega, fun l hl => by rw [h.doner l hl]; omega⟩
noncomputable def copS : HSpec where
  go args h := ⟨(args = [.agg (decC stE args).row] ∧ (decC stE args).Cp) ∧ FreshC h ∧ Blank cpOwn h, cpV (decC stE args), Ob cpL (decC stE args) (bmp cpOwn 1000000 h)⟩
theorem cop_go (t : RS) (h : Hp) : copS.go [.agg t.row] h = ⟨t.Cp ∧ FreshC h ∧ Blank cpOwn h, cpV t, Ob cpL t (bmp cpOwn 1000000 h)⟩ := by
  simp only [copS, stE_dec, true_and]
theorem cop_inv {args : List V} {h : Hp} (hc : (copS.go args h).c) : ∃ t : RS, args = [.agg t.row] ∧ t.Cp ∧ FreshC h ∧ Blank cpOwn h := by
  obtain ⟨⟨h1, h2⟩, h3, h4⟩ := hc
  exact ⟨_, h1, h2, h3, h4⟩
theorem snR_succ {l : List (List Int)} {k : Nat} {x : List Int} (h : l[k]? = some x) : snR (l.take (k + 1)) = snR (l.take k) ++ [[.bsl 11629 k x.length]] := by
  have hk := (List.getElem?_eq_some_iff.1 h).1
  rw [List.take_add_one, h, snR, Option.toList_some, List.mapIdx_concat]
  simp [snR, Nat.min_eq_left (by omega : k ≤ l.length)]
theorem dnR_succ {l : List (List Bool)} {k : Nat} {x : List Bool} (h : l[k]? = some x) : dnR (l.take (k + 1)) = dnR (l.take k) ++ [[.bsl 11640 k x.length]] := by
  have hk := (List.getElem?_eq_some_iff.1 h).1
  rw [List.take_add_one, h, dnR, Option.toList_some, List.mapIdx_concat]
  simp [dnR, Nat.min_eq_left (by omega : k ≤ l.length)]
def tkB {α : Type} (f : α → Blk) (l : List α) (k : Nat) : List Blk := (l.take k).map f
theorem tkB_zero {α : Type} (f : α → Blk) (l : List α) : tkB f l 0 = [] := rfl
theorem tkB_all {α : Type} (f : α → Blk) (l : List α) {k : Nat} (h : k = l.length) : tkB f l k = l.map f := by subst h; simp [tkB]
theorem sub0_lsV (k n : Nat) : sub0 (lsV k n) (lsV k n) := by unfold lsV; split <;> simp [sub0]
theorem map_take_succ {α β : Type} (f : α → β) {l : List α} {k : Nat} {x : α} (h : l[k]? = some x) : (l.take (k + 1)).map f = (l.take k).map f ++ [f x] := by
  rw [List.take_add_one, h]; simp
theorem tkB_succ {α : Type} (f : α → Blk) {l : List α} {k : Nat} {x : α} (h : l[k]? = some x) : tkB f l (k + 1) = tkB f l k ++ [f x] := map_take_succ f h
theorem tkB_len {α : Type} (f : α → Blk) {l : List α} {k : Nat} (h : k ≤ l.length) : (tkB f l k).length = k := by simp [tkB]; omega
noncomputable abbrev E116 : Env := { P := Tryz.prog, fn := tbl [], own := [30, 41], key := 11600, nt := 45 }
theorem b116 : HeapBody E116 [(1, ([2001, 2004, 2007, 3002, 3005, 3008], [[0, 1, 2, 3, 4, 5, 6, 7, 8, 9, 10, 11]])), (5, ([2001], [[0, 1, 2, 3, 4, 5, 6, 7, 8, 9, 10, 11]])), (6, ([2001], [[0, 1, 2, 3, 4, 5, 6, 7, 8, 9, 10, 11]]))] Tryz.f116 copS := by
  intro args h hc
  obtain ⟨t, rfl, hcp, hfr, hbl⟩ := cop_inv hc
  rw [cop_go]
  clear hc
  obtain ⟨s1, s2, s3, s4, s5, s6, s7⟩ := hcp
  have hh : h = hps ([(11607, { base := 0, blks := [] }), (11610, { base := 0, blks := [] }), (11613, { base := 0, blks := [] }), (11631, { base := 0, blks := [] }), (11629, { base := 0, blks := [] }), (11642, { base := 0, blks := [] }), (11640, { base := 0, blks := [] }), (11601, { base := (h 11601).base, blks := [] }), (11602, { base := (h 11602).base, blks := [] }), (11603, { base := (h 11603).base, blks := [] }), (11630, { base := (h 11630).base, blks := [] }), (11641, { base := (h 11641).base, blks := [] })]) h := by
    refine (hps_self fun k hk => ?_).symm
    have f := fun k hk => hfr k hk
    have b := fun k hk => hbl k hk
    simp only [List.map_cons, List.map_nil, List.mem_cons, List.not_mem_nil, or_false] at hk
    rcases hk with rfl | rfl | rfl | rfl | rfl | rfl | rfl | rfl | rfl | rfl | rfl | rfl
    all_goals first
      | exact f _ (by simp)
      | exact b _ (by simp)
  clear hfr hbl
  have hpost : Ob cpL t (bmp cpOwn 1000000 h) = hps (cpL t ++ [(11601, { base := (h 11601).base + 1000000, blks := [] }), (11602, { base := (h 11602).base + 1000000, blks := [] }), (11603, { base := (h 11603).base + 1000000, blks := [] }), (11630, { base := (h 11630).base + 1000000, blks := [] }), (11641, { base := (h 11641).base + 1000000, blks := [] })]) h := by
    simp only [Ob, bmp, hps_app, cpOwn, List.map_cons, List.map_nil]
  rw [hpost]
  clear hpost
  generalize (h 11601).base = b1 at *
  generalize (h 11602).base = b2 at *
  generalize (h 11603).base = b3 at *
  generalize (h 11630).base = b30 at *
  generalize (h 11641).base = b41 at *
  rw [hh]
  simp only [hps_app]
  clear hh
  have u8 : t.used.length * 16 ≤ 140737488355328 := by omega
  have w8 : t.whr.length * 16 ≤ 140737488355328 := by omega
  have i8 : t.iss.length ≤ 140737488355328 := by omega
  simp -dsimp [Tryz.f116, E116, RS.row]
  repeat' (first | omega | (exact sub0_lsV _ _) | (simp -dsimp [E116, ri, cellp, ints, FoOk, NwOk, RS.row, u8, w8, i8]) | (refine Also.intro ?_ fun _ => ?_) | (refine Hold.intro fun _ => ?_) | (refine And.intro ?_ ?_))
  refine awp_loop [15, 16, 17, 18, 19, 22, 23, 24, 25, 26, 27, 28, 29, 30, 31, 32, 33, 34, 35, 36, 37, 38, 39, 40, 41, 42, 43, 20, 21, 4] (fun k : Fin (t.since.length + 1) => [(4, (true, .int .i64 (k.1 : Nat)))])
    (fun k => hps [(11603, { base := b3, blks := [{ z := 5, els := [[.bsl 11607 0 t.used.length, .bsl 11610 0 t.whr.length, .bsl 11613 0 t.iss.length, lsV 11631 k.1, lsV 11642 k.1]], ty := 101, cl := false }] }),
      (11631, { base := 0, blks := lsB (snR (t.since.take k.1)) 37 }), (11629, { base := 0, blks := tkB ibB t.since k.1 }), (11642, { base := 0, blks := lsB (dnR (t.done.take k.1)) 70 }), (11640, { base := 0, blks := tkB bbB t.done k.1 }),
      (11607, { base := 0, blks := [{ z := 2, els := t.used.map cycV, ty := 41 }] }), (11610, { base := 0, blks := [{ z := 2, els := t.whr.map cycV, ty := 41 }] }), (11613, { base := 0, blks := [{ z := 1, els := t.iss.map rb, ty := 4 }] }),
      (11630, { base := b30 + k.1, blks := [] }), (11641, { base := b41 + k.1, blks := [] }), (11602, { base := b2, blks := [{ z := 5, els := [[.nil, .nil, .nil, .nil, .nil]], ty := 101 }] }),
      (11601, { base := b1, blks := [{ z := 5, els := [[.sl 2 (t.used.map cycV), .sl 2 (t.whr.map cycV), .sl 1 (t.iss.map rb), snV t.since, dnV t.done]], ty := 101 }] })] h) (fun k => t.since.length - k.1) ⟨0, by omega⟩ ?_ ?_ ?_
  · simp [okAll, okv]
  · exact (by (try simp -dsimp only [hpush_noH, hpush_hps, hps_over]); refine hle_hpsb ?_; simp -dsimp [allK, snR, dnR, lsB_nil, lsV_zero, tkB_zero]; repeat' (first | (refine And.intro ?_ ?_) | (refine sLe.same ?_ ?_ <;> (simp; done)) | (refine sLe.clear ?_ ?_ <;> (first | (simp; done) | (simp; omega))) | (refine sLe.drop 1 ?_ ?_ ?_ <;> (simp; done))))
  rintro ⟨k, hk⟩
  simp only
  by_cases hk1 : k < t.since.length
  · have hki : (k : Int) < t.since.length := by omega
    have wk : IntKind.wrap .i64 ((k : Int) + 1) = (k + 1 : Nat) := wrap_id (by omega) (by omega)
    have hkd : k < t.done.length := by omega
    obtain ⟨x, hx, hx'⟩ := get_ex hk1
    obtain ⟨y, hy, hy'⟩ := get_ex hkd
    have x8 : x.length * 8 ≤ 140737488355328 := by have := s6 x (hx' ▸ List.getElem_mem hk1); omega
    have y8 : y.length ≤ 140737488355328 := by have := s7 y (hy' ▸ List.getElem_mem hkd); omega
    have hsv := snV_ne (l := t.since) (by omega)
    have hdv := dnV_ne (l := t.done) (by omega)
    have hR1 := snR_succ hx
    have hR2 := dnR_succ hy
    have hM1 := tkB_succ ibB hx
    have hM2 := tkB_succ bbB hy
    have hl1 : (snR (t.since.take k)).length = k := by simp [snR]; omega
    have hl2 : (dnR (t.done.take k)).length = k := by simp [dnR]; omega
    have hm1 := tkB_len ibB (l := t.since) (k := k) (by omega)
    have hm2 := tkB_len bbB (l := t.done) (k := k) (by omega)
    have hV1 := lsV_ne (k := 11631) (n := k + 1) (by omega)
    have hV2 := lsV_ne (k := 11642) (n := k + 1) (by omega)
    have hP1 := lsB_ne (rows := snR (t.since.take (k + 1))) (ty := 37) (by rw [hR1]; simp)
    have hP2 := lsB_ne (rows := dnR (t.done.take (k + 1))) (ty := 70) (by rw [hR2]; simp)
    rw [hR1] at hP1
    rw [hR2] at hP2
    have hb8 : (k + 1) * 24 ≤ 140737488355328 := by omega
    have hI : ibB x = { z := 1, els := x.map ri, ty := 3 } := rfl
    have hB : bbB y = { z := 1, els := y.map rb, ty := 4 } := rfl
    rw [hI] at hM1
    rw [hB] at hM2
    generalize hg1 : snR (t.since.take k) = R1 at *
    generalize hg2 : dnR (t.done.take k) = R2 at *
    generalize hg3 : tkB ibB t.since k = M1 at *
    generalize hg4 : tkB bbB t.done k = M2 at *
    by_cases hk0 : k = 0
    · subst hk0
      have e1 : R1 = [] := List.length_eq_zero_iff.1 hl1
      have e2 : R2 = [] := List.length_eq_zero_iff.1 hl2
      have e3 : M1 = [] := List.length_eq_zero_iff.1 hm1
      have e4 : M2 = [] := List.length_eq_zero_iff.1 hm2
      subst e1 e2 e3 e4
      simp -dsimp [hki, hk1]
      repeat' (first | omega | (exact sub0_lsV _ _) | (simp -dsimp [E116, ri, cellp, ints, FoOk, NwOk, hki, hk1, hkd, hsv, hdv, hx, hx', hy, hy', ints, bls, x8, y8, wk, hb8, lsB_nil, lsV_zero]) | (refine Also.intro ?_ fun _ => ?_) | (refine Hold.intro fun _ => ?_) | (refine And.intro ?_ ?_))
      refine ⟨⟨0 + 1, by omega⟩, tle_chain rfl ?_, (by (try simp -dsimp only [hpush_noH, hpush_hps, hps_over]); refine hle_hpsb ?_; simp -dsimp [allK, hR1, hR2, hM1, hM2, hV1, hV2, lsB]; repeat' (first | (refine And.intro ?_ ?_) | (refine sLe.same ?_ ?_ <;> (simp; done)) | (refine sLe.clear ?_ ?_ <;> (first | (simp; done) | (simp; omega))) | (refine sLe.drop 1 ?_ ?_ ?_ <;> (simp; done)))), by simp only; omega⟩
      simp [okAll, okv]
      exact wk
    · have z1 := lsV_ne (k := 11631) (n := k) (by omega)
      have z2 := lsV_ne (k := 11642) (n := k) (by omega)
      have z3 := lsB_ne (rows := R1) (ty := 37) (by omega)
      have z4 := lsB_ne (rows := R2) (ty := 70) (by omega)
      simp -dsimp [hki, z1, z2, z3, z4]
      repeat' (first | omega | (exact sub0_lsV _ _) | (simp -dsimp [E116, ri, cellp, ints, FoOk, NwOk, hki, hk1, hkd, hsv, hdv, hx, hx', hy, hy', ints, bls, x8, y8, wk, hb8, z1, z2, z3, z4, hl1, hl2, hm1, hm2]) | (refine Also.intro ?_ fun _ => ?_) | (refine Hold.intro fun _ => ?_) | (refine And.intro ?_ ?_))
      refine ⟨⟨k + 1, by omega⟩, tle_chain rfl ?_, (by (try simp -dsimp only [hpush_noH, hpush_hps, hps_over]); refine hle_hpsb ?_; simp -dsimp [allK, hR1, hR2, hM1, hM2, hP1, hP2, hV1, hV2]; repeat' (first | (refine And.intro ?_ ?_) | (refine sLe.same ?_ ?_ <;> (simp; done)) | (refine sLe.clear ?_ ?_ <;> (first | (simp; done) | (simp; omega))) | (refine sLe.drop 1 ?_ ?_ ?_ <;> (simp; done)))), by simp only; omega⟩
      simp [okAll, okv]
  have hkn : ¬ (k : Int) < t.since.length := by omega
  have hke : k = t.since.length := by omega
  subst hke
  have t1 : t.since.take t.since.length = t.since := List.take_length
  have t2 : t.done.take t.since.length = t.done := by rw [← s5]; exact List.take_length
  have t3 := tkB_all ibB t.since (k := t.since.length) rfl
  have t4 := tkB_all bbB t.done (k := t.since.length) s5.symm
  simp -dsimp [hkn]
  repeat' (first | omega | (exact sub0_lsV _ _) | (simp -dsimp [E116, ri, cellp, ints, hkn, t1, t2, t3, t4, cpV, s5]) | (refine Also.intro ?_ fun _ => ?_) | (refine Hold.intro fun _ => ?_) | (refine And.intro ?_ ?_))
  exact (by (try simp -dsimp only [hpush_noH, hpush_hps, hps_over]); refine hle_hpsb ?_; simp -dsimp [allK, cpL, cpB, bbB, t1, t2, t3, t4, s5]; repeat' (first | (refine And.intro ?_ ?_) | (refine sLe.same ?_ ?_ <;> (simp; done)) | (refine sLe.clear ?_ ?_ <;> (first | (simp; done) | (simp; omega))) | (refine sLe.drop 1 ?_ ?_ ?_ <;> (simp; done))))
theorem ok116 : FnOK Tryz.prog 116 (.heap copS) := heap_fn (E := E116) rfl LOK.nil (ok := [(1, ([2001, 2004, 2007, 3002, 3005, 3008], [[0, 1, 2, 3, 4, 5, 6, 7, 8, 9, 10, 11]])), (5, ([2001], [[0, 1, 2, 3, 4, 5, 6, 7, 8, 9, 10, 11]])), (6, ([2001], [[0, 1, 2, 3, 4, 5, 6, 7, 8, 9, 10, 11]]))]) (fn := Tryz.f116) (by kernel_rfl) (by kernel_rfl) (by kernel_rfl) (by kernel_rfl) rfl (fun args h hc => by obtain ⟨_, rfl, _⟩ := cop_inv hc; simp) b116
end Go.Sx
end
section
/- Parts: what a work does to the reference's state. No conditions. -/
set_option linter.unusedSimpArgs false
set_option linter.unusedSectionVars false
namespace Go.Sx

section wr
variable [Gls] {s : RS} {h : Hp} {i j : Nat}
theorem ck {k : Nat} (hk : k ∈ cpK) : k = 11607 ∨ k = 11610 ∨ k = 11613 ∨ k = 11631 ∨ k = 11629 ∨ k = 11642 ∨ k = 11640 := by
  simpa only [cpK, List.mem_cons, List.not_mem_nil, or_false] using hk
theorem x_used (x y : Int) : hset (Ob cpL s h) 11607 0 { z := 2, els := (s.used.map cycV).set j [.int .i64 x, .int .i64 y], ty := 41, fz := false, cl := true } = Ob cpL { s with used := s.used.set j (x, y) } h := by
  refine ob_write cpL_keys (by simp) (fun k hk hne => ?_) ?_
  · rcases ck hk with rfl | rfl | rfl | rfl | rfl | rfl | rfl <;> simp at hne ⊢
  · simp [cycV]
theorem x_whr (x y : Int) : hset (Ob cpL s h) 11610 0 { z := 2, els := (s.whr.map cycV).set j [.int .i64 x, .int .i64 y], ty := 41, fz := false, cl := true } = Ob cpL { s with whr := s.whr.set j (x, y) } h := by
  refine ob_write cpL_keys (by simp) (fun k hk hne => ?_) ?_
  · rcases ck hk with rfl | rfl | rfl | rfl | rfl | rfl | rfl <;> simp at hne ⊢
  · simp [cycV]
theorem x_iss (x : Bool) : hset (Ob cpL s h) 11613 0 { z := 1, els := (s.iss.map rb).set j [.bool x], ty := 4, fz := false, cl := true } = Ob cpL { s with iss := s.iss.set j x } h := by
  refine ob_write cpL_keys (by simp) (fun k hk hne => ?_) ?_
  · rcases ck hk with rfl | rfl | rfl | rfl | rfl | rfl | rfl <;> simp at hne ⊢
  · simp [rb]
theorem snR_set {l : List (List Int)} {o : Nat} {r r' : List Int} (h : l[o]? = some r) (hl : r'.length = r.length) : snR (l.set o r') = snR l := by
  unfold snR
  rw [List.mapIdx_set, hl]
  exact set_id (by rw [List.getElem?_mapIdx, h]; rfl)
theorem dnR_set {l : List (List Bool)} {o : Nat} {r r' : List Bool} (h : l[o]? = some r) (hl : r'.length = r.length) : dnR (l.set o r') = dnR l := by
  unfold dnR
  rw [List.mapIdx_set, hl]
  exact set_id (by rw [List.getElem?_mapIdx, h]; rfl)
theorem x_sn {r : List Int} (hr : s.since[i]? = some r) (x : Int) : hset (Ob cpL s h) 11629 i { z := 1, els := (r.map ri).set j [.int .i64 x], ty := 3, fz := false, cl := true } = Ob cpL { s with since := s.since.set i (r.set j x) } h := by
  refine ob_write cpL_keys (by simp) (fun k hk hne => ?_) ?_
  · rcases ck hk with rfl | rfl | rfl | rfl | rfl | rfl | rfl <;> simp at hne ⊢
    rw [snR_set hr (by simp)]
  · simp [List.map_set, ibB, ri]
theorem x_dn {r : List Bool} (hr : s.done[i]? = some r) (x : Bool) : hset (Ob cpL s h) 11640 i { z := 1, els := (r.map rb).set j [.bool x], ty := 4, fz := false, cl := true } = Ob cpL { s with done := s.done.set i (r.set j x) } h := by
  refine ob_write cpL_keys (by simp) (fun k hk hne => ?_) ?_
  · rcases ck hk with rfl | rfl | rfl | rfl | rfl | rfl | rfl <;> simp at hne ⊢
    rw [dnR_set hr (by simp)]
  · simp [List.map_set, bbB, rb]
@[simp] theorem len1_used (s : RS) (h : Hp) {n : Nat} (hn : n = s.used.length) : lend1 (Ob cpL s h) (.bsl 11607 0 n) = (True, .sl 2 (s.used.map cycV)) := by subst hn; simp [lend1, lendN, lendB]
@[simp] theorem len1_whr (s : RS) (h : Hp) {n : Nat} (hn : n = s.whr.length) : lend1 (Ob cpL s h) (.bsl 11610 0 n) = (True, .sl 2 (s.whr.map cycV)) := by subst hn; simp [lend1, lendN, lendB]
@[simp] theorem len1_iss (s : RS) (h : Hp) {n : Nat} (hn : n = s.iss.length) : lend1 (Ob cpL s h) (.bsl 11613 0 n) = (True, .sl 1 (s.iss.map rb)) := by subst hn; simp [lend1, lendN, lendB]
@[simp] theorem len1_sn (s : RS) (h : Hp) {n : Nat} (hn : n = s.since.length) : lend1 (Ob cpL s h) (lsV 11631 n) = (True, snV s.since) := by subst hn; exact lend_sn s h
@[simp] theorem len1_dn (s : RS) (h : Hp) {n : Nat} (hn : n = s.done.length) : lend1 (Ob cpL s h) (lsV 11642 n) = (True, dnV s.done) := by subst hn; exact lend_dn s h
end wr

/-- The hours since an order was issued, for one part, the first orders of them counted. -/
def snAdd (iss : List Bool) (h : Int) (p : Nat) (l : List (List Int)) : Nat → List (List Int)
  | 0 => l
  | o + 1 => if iss.getD o false = true then (snAdd iss h p l o).set o (((snAdd iss h p l o).getD o []).set p (wadd (((snAdd iss h p l o).getD o []).getD p 0) h)) else snAdd iss h p l o
def RS.flyU (t : RS) (m h c : Int) : Nat → List (Int × Int)
  | 0 => t.used
  | k + 1 => if (t.whr.getD k (0, 0)).1 = m then (t.flyU m h c k).set k (wadd ((t.flyU m h c k).getD k (0, 0)).1 h, wadd ((t.flyU m h c k).getD k (0, 0)).2 c) else t.flyU m h c k
def RS.flyS (t : RS) (m h : Int) : Nat → List (List Int)
  | 0 => t.since
  | k + 1 => if (t.whr.getD k (0, 0)).1 = m then snAdd t.iss h k (t.flyS m h k) t.iss.length else t.flyS m h k
theorem flyU_len (t : RS) (m h c : Int) : ∀ k, (t.flyU m h c k).length = t.used.length
  | 0 => rfl
  | k + 1 => by simp only [RS.flyU]; split <;> simp [flyU_len t m h c k]
theorem snAdd_lens (iss : List Bool) (h : Int) (p : Nat) (l : List (List Int)) : ∀ o, (snAdd iss h p l o).map List.length = l.map List.length
  | 0 => rfl
  | o + 1 => by
    simp only [snAdd]; split
    · rw [List.map_set, ← snAdd_lens iss h p l o]
      refine List.ext_getElem? fun n => ?_
      rw [List.getElem?_set]
      split
      · rename_i e; subst e
        split
        · rename_i hl
          simp only [List.length_map] at hl
          simp [List.getD, hl]
        · rename_i hl
          rw [List.getElem?_eq_none (by simpa using hl)]
      · rfl
    · exact snAdd_lens iss h p l o
theorem flyS_lens (t : RS) (m h : Int) : ∀ k, (t.flyS m h k).map List.length = t.since.map List.length
  | 0 => rfl
  | k + 1 => by
    simp only [RS.flyS]; split
    · rw [snAdd_lens, flyS_lens t m h k]
    · exact flyS_lens t m h k
theorem lens_len {l l' : List (List Int)} (h : l.map List.length = l'.map List.length) : l.length = l'.length := by simpa using congrArg List.length h
theorem lens_all {l l' : List (List Int)} (h : l.map List.length = l'.map List.length) {n : Nat} (hn : ∀ x ∈ l', x.length = n) : ∀ x ∈ l, x.length = n := by
  intro x hx
  have : x.length ∈ l.map List.length := List.mem_map.2 ⟨x, hx, rfl⟩
  rw [h] at this
  obtain ⟨y, hy, e⟩ := List.mem_map.1 this
  rw [← e]; exact hn y hy
def RS.flyDo (t : RS) (m h c : Int) (n : Nat) : RS := { t with used := t.flyU m h c n, since := t.flyS m h n }
def RS.partA (r : Reg) (n : Int) : Bool := withinB n 0 (wsub r.parts.length 1)
def RS.ordA (r : Reg) (n : Int) : Bool := withinB n 0 (wsub r.orders.length 1)
def RS.stored (t : RS) (r : Reg) (n : Int) : Bool := RS.partA r n && (t.whr.getD n.toNat (0, 0)).1 == -1
def RS.ok (t : RS) (r : Reg) (w : Wk) : Bool :=
  if w.kind = 1 then withinB w.a 0 (wsub r.machines 1) && (withinB w.b 0 100 && (withinB w.c 0 100 && (t.hi r).flies w.a w.b w.c)) else
  if w.kind = 2 then t.stored r w.a && ((r.parts.getD w.a.toNat default).known && (withinB w.b 0 (wsub r.machines 1) && (withinB w.c 0 (wsub (r.kinds.getD (r.parts.getD w.a.toNat default).kind.toNat default).places 1) && decide ((t.hi r).at (r.parts.getD w.a.toNat default).kind w.b w.c < 0)))) else
  if w.kind = 3 then RS.partA r w.a && (decide (0 ≤ (t.whr.getD w.a.toNat (0, 0)).1) && w.alone) else
  if w.kind = 4 then RS.ordA r w.a && (!(t.iss.getD w.a.toNat false) && w.alone) else
  if w.kind = 5 then RS.partA r w.a && (RS.ordA r w.b && (t.iss.getD w.b.toNat false && ((r.orders.getD w.b.toNat default).kind == (r.parts.getD w.a.toNat default).kind && (!((t.done.getD w.b.toNat []).getD w.a.toNat false) && w.c == 0)))) else
  if w.kind = 6 then t.stored r w.a && w.alone else false
def RS.act (t : RS) (r : Reg) (w : Wk) : RS :=
  if w.kind = 1 then t.flyDo w.a w.b w.c r.parts.length else
  if w.kind = 2 then { t with whr := t.whr.set w.a.toNat (w.b, w.c) } else
  if w.kind = 3 then { t with whr := t.whr.set w.a.toNat (-1, -1) } else
  if w.kind = 4 then { t with iss := t.iss.set w.a.toNat true } else
  if w.kind = 5 then { t with done := t.done.set w.b.toNat ((t.done.getD w.b.toNat []).set w.a.toNat true) } else
  if w.kind = 6 then { t with whr := t.whr.set w.a.toNat (-2, -2) } else t
def RS.after (t : RS) (r : Reg) (w : Wk) : RS := if t.ok r w = true then t.act r w else t
end Go.Sx
end
