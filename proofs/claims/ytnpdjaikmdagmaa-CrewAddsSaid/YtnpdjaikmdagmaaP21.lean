/- A part of a proof; no conditions. -/
import Derived.Test.YtnpdjaikmdagmaaP16
import Derived.Test.YtnpdjaikmdagmaaP20
set_option linter.unusedSimpArgs false
set_option linter.unusedVariables false
set_option linter.unusedSectionVars false
section
/- Crew: Crews. No conditions. -/
set_option linter.unusedSimpArgs false
set_option linter.unusedSectionVars false
set_option maxRecDepth 100000
set_option maxHeartbeats 2000000
namespace Go.Sx
open Go.Proofs
attribute [local irreducible] HLe

def prw (p : Int × Int) : List V := [.int .i64 p.1, .int .i64 p.2]
theorem prw_inj (a b : Int × Int) (h : prw a = prw b) : a = b := by
  simp [prw] at h; exact Prod.ext h.1 h.2
noncomputable def crwO (r : Ro) (l : List Du) (c : Cl) : List (Int × Int) × Int := if chk2W srtD r l (callW c) = 0 then (crwW srtD r l c, 0) else ([], chk2W srtD r l (callW c))
@[simp] def crE (d : Ro × List Du × Cl) : List V := [.agg d.1.row, .sl 3 (d.2.1.map Du.row), .agg d.2.2.row]
theorem crE_inj (a b : Ro × List Du × Cl) (h : crE a = crE b) : a = b := by
  obtain ⟨a1, a2, a3⟩ := a; obtain ⟨b1, b2, b3⟩ := b
  simp only [crE, List.cons.injEq, V.agg.injEq, V.sl.injEq, true_and, and_true] at h
  rw [Ro.row_inj _ _ h.1, mapRow_inj Du.row_inj h.2.1, Cl.row_inj _ _ h.2.2]
theorem crE_dec (r : Ro) (l : List Du) (c : Cl) : decC crE [.agg [.sl 3 (r.ppl.map Pn.row), .int .i64 r.lng, .int .i64 r.rst, .int .i64 r.win, .int .i64 r.tot, .int .i64 r.rcn], .sl 3 (l.map Du.row), .agg [.int .i64 c.a, .int .i64 c.b, .int .i64 c.craft, .bool c.water]] = (r, l, c) := decC_eq crE_inj (r, l, c)
structure CrP (e : Ro × List Du × Cl) : Prop where
  p : e.1.ppl.length ≤ 1000000
  n : e.2.1.length ≤ 1000000
noncomputable abbrev CrwS : PSpec := mkP crE CrP fun e => .tup [.sl 2 ((crwO e.1 e.2.1 e.2.2).1.map prw), .int .i64 (crwO e.1 e.2.1 e.2.2).2]
/-- The ranks of those who may, up to the k-th. -/
def mayL (n : Nat) (mv : Nat → Int) (k : Nat) : List Int := (List.range n).map fun i => if i < k then mv i else 0
theorem mayL_len (n : Nat) (mv : Nat → Int) (k : Nat) : (mayL n mv k).length = n := by simp [mayL]
theorem mayL_zero (n : Nat) (mv : Nat → Int) : List.replicate n [V.int .i64 0] = (mayL n mv 0).map ri := by
  apply List.ext_getElem
  · simp [mayL]
  · intro i h1 h2
    simp [mayL, ri]
theorem mayL_set {n : Nat} (mv : Nat → Int) {k : Nat} (hk : k < n) {x : Int} (hx : mv k = x) : ((mayL n mv k).map ri).set k [V.int .i64 x] = (mayL n mv (k + 1)).map ri := by
  apply List.ext_getElem
  · simp [mayL]
  · intro i h1 h2
    simp only [List.length_map, mayL_len] at h2
    rw [List.getElem_set]
    by_cases h : k = i
    · subst h
      rw [if_pos rfl]
      simp [mayL, ri, hx]
    · rw [if_neg h]
      simp only [mayL, List.getElem_map, List.getElem_range, ri]
      by_cases hik : i < k
      · rw [if_pos hik, if_pos (by omega)]
      · rw [if_neg hik, if_neg (by omega)]
theorem mayL_at {n : Nat} (mv : Nat → Int) {k : Nat} (hk : k < n) : (mayL n mv n)[k]? = some (mv k) := by
  simp [mayL, hk]
section
variable (r : Ro) (l : List Du) (c : Cl)
noncomputable def mvW (i : Nat) : Int := if whyW srtD r l i c = [] then (pnAt r i).rank else -1
noncomputable def crIn (i k : Nat) : List (Int × Int) := ((List.range k).filter fun k : Nat => mayW srtD r l c i k).map fun k : Nat => ((i : Int), (k : Int))
noncomputable def crOu (i : Nat) : List (Int × Int) := (List.range i).flatMap fun i : Nat => crIn r l c i r.ppl.length
theorem crOu_end : crOu r l c r.ppl.length = crwW srtD r l c := rfl
theorem crIn_succ (i k : Nat) : crIn r l c i (k + 1) = if mayW srtD r l c i k = true then crIn r l c i k ++ [((i : Int), (k : Int))] else crIn r l c i k := by
  unfold crIn
  rw [List.range_succ, List.filter_append, List.map_append]
  by_cases h : mayW srtD r l c i k = true
  · rw [if_pos h]; simp [h]
  · rw [if_neg h]; simp [h]
theorem crOu_succ (i : Nat) : crOu r l c (i + 1) = crOu r l c i ++ crIn r l c i r.ppl.length := by
  unfold crOu
  rw [List.range_succ, List.flatMap_append]; simp
theorem crIn_len (i : Nat) : ∀ k, (crIn r l c i k).length ≤ k := fun k => by
  unfold crIn
  rw [List.length_map]
  exact Nat.le_trans (List.length_filter_le _ _) (by simp)
theorem crOu_len : ∀ i, (crOu r l c i).length ≤ i * r.ppl.length
  | 0 => by simp [crOu]
  | i + 1 => by
    have := crOu_len i
    have := crIn_len r l c i r.ppl.length
    rw [crOu_succ, List.length_append, Nat.add_mul]; omega
theorem mayW_mv (i k : Nat) : mayW srtD r l c i k = (decide (i ≠ k) && decide (2 ≤ mvW r l c i) && decide (1 ≤ mvW r l c k)) := by
  have h : ∀ (n : Int) (i : Nat), 0 < n → decide (n ≤ mvW r l c i) = (decide (n ≤ (pnAt r i).rank) && (whyW srtD r l i c).isEmpty) := by
    intro n i hn
    unfold mvW
    by_cases h : whyW srtD r l i c = []
    · rw [if_pos h, h]; simp
    · rw [if_neg h]
      have : (whyW srtD r l i c).isEmpty = false := by simpa using h
      rw [this, decide_eq_false (by omega), Bool.and_false]
  unfold mayW
  rw [h 2 i (by omega), h 1 k (by omega)]
end
theorem whyW_len (r : Ro) (l : List Du) (n : Int) (c : Cl) : (whyW srtD r l n c).length ≤ 10 := by
  unfold whyW brkW
  simp only [List.length_append]
  repeat' split
  all_goals simp
noncomputable abbrev E25 : Env := { P := Try.prog, fn := tbl [(41, .pure ckS), (43, .pure callS), (44, .pure whyS)], own := [], key := 2500, nt := 86 }
theorem b25 : PureBody E25 [] Try.f25 CrwS := by
  refine pb ?_
  rintro ⟨r, l, c⟩ ⟨hp, hl⟩
  simp only at hp hl
  have hK : crwO r l c = if chk2W srtD r l (callW c) = 0 then (crwW srtD r l c, 0) else ([], chk2W srtD r l (callW c)) := rfl
  have hCP : ChP (r, l) := ⟨hp, hl⟩
  generalize h2 : callW c = b at hK
  by_cases he : chk2W srtD r l b = 0
  case neg =>
    rw [if_neg he] at hK
    have he' : (chk2W srtD r l b = 0) = False := eq_false he
    simp -dsimp [Try.f25, E25, Ro.row, pplV, Cl.row]
    repeat' (first | omega | (simp -dsimp [E25, ri, cellp, ints, Ro.row, pplV, Cl.row, ckE_dec, clE_dec, hCP, h2, he', hK]) | (refine Also.intro ?_ fun _ => ?_) | (refine Hold.intro fun _ => ?_) | (refine And.intro ?_ ?_))
  rw [if_pos he] at hK
  obtain ⟨z1, z2⟩ := chk2_zero he
  subst z2
  have hWP : ∀ k : Nat, k < r.ppl.length → WhP (r, l, (k : Int), c) := fun k hk => WhP.of z1 (by omega) h2
  have hend := crOu_end r l c
  have hn12 : r.ppl.length ≤ 12 := by
    have : r.ok = true := by
      unfold chkEW at z1
      split at z1
      · assumption
      · simp at z1
    exact (Ro.ok_iff.1 this).n
  simp -dsimp [Try.f25, E25, Ro.row, pplV, Cl.row]
  repeat' (first | omega | (simp -dsimp [E25, ri, cellp, ints, Ro.row, pplV, Cl.row, ckE_dec, clE_dec, hCP, h2, he]) | (refine Also.intro ?_ fun _ => ?_) | (refine Hold.intro fun _ => ?_) | (refine And.intro ?_ ?_))
  refine awp_loop [32, 33, 34, 35, 11, 10, 36, 37, 38, 39, 40, 41, 42, 43, 44, 45, 46, 47, 48, 49, 50, 51, 31] (fun k : { k : Nat // k ≤ r.ppl.length } => [(31, (true, .int .i64 k.1))]) (fun k => hps [(2511, { base := k.1, blks := [] }), (2527, { base := 0, blks := [{ z := 1, els := (mayL r.ppl.length (mvW r l c) k.1).map ri, ty := 3 }] }), (2503, { base := 0, blks := [{ z := 6, els := [r.row], ty := 33 }] }), (2505, { base := 0, blks := [{ z := 4, els := [c.row], ty := 36 }] })] noH) (fun k => r.ppl.length - k.1) ⟨0, by omega⟩ ?_ ?_ ?_
  · simp [okAll, okv]
  · simp only [← mayL_zero]; exact (by (try simp -dsimp only [hpush_noH, hpush_hps, hps_over]); refine hle_hps ?_; simp -dsimp [allK, Ro.row, pplV, Cl.row]; repeat' (first | (refine And.intro ?_ ?_) | (refine sLe.same ?_ ?_ <;> (simp; done)) | (refine sLe.clear ?_ ?_ <;> (first | (simp; done) | (simp; omega))) | (refine sLe.drop 1 ?_ ?_ ?_ <;> (simp; done))))
  rintro ⟨k, hk⟩
  dsimp only
  have hml := mayL_len r.ppl.length (mvW r l c) k
  by_cases hk1 : k < r.ppl.length
  · have hki : (k : Int) < r.ppl.length := by omega
    have wk : IntKind.wrap .i64 ((k : Int) + 1) = (k + 1 : Nat) := wrap_id (by omega) (by omega)
    obtain ⟨p, hpk⟩ : ∃ p, r.ppl[k]? = some p := ⟨_, List.getElem?_eq_getElem hk1⟩
    have hpk' : r.ppl[k] = p := (List.getElem?_eq_some_iff.1 hpk).2
    have hpa : pnAt r k = p := by simp [pnAt, List.getD, hpk]
    have hW := hWP k hk1
    have hwd := whE_dec r l k c
    have hmv : mvW r l c k = if whyW srtD r l k c = [] then p.rank else -1 := by unfold mvW; rw [hpa]
    have hset := fun x (h : mvW r l c k = x) => mayL_set (mvW r l c) hk1 h
    have hkm : k < (mayL r.ppl.length (mvW r l c) k).length := by omega
    rcases hwy : whyW srtD r l k c with _ | ⟨y, ys⟩
    · rw [hwy, if_pos rfl] at hmv
      have hset := hset _ hmv
      simp -dsimp [hki]
      repeat' (first | omega | (simp -dsimp [E25, ri, cellp, ints, Ro.row, pplV, Cl.row, Pn.row, hki, hk1, hkm, hml, hpk, hpk', hwd, hW, hwy, wk]) | (refine Also.intro ?_ fun _ => ?_) | (refine Hold.intro fun _ => ?_) | (refine And.intro ?_ ?_))
      refine ⟨k + 1, tle_chain rfl ?_, ?_, by omega, by omega⟩
      · simp [okAll, okv]
      · rw [← hset]; exact (by (try simp -dsimp only [hpush_noH, hpush_hps, hps_over]); refine hle_hps ?_; simp -dsimp [allK, Ro.row, pplV, Cl.row]; repeat' (first | (refine And.intro ?_ ?_) | (refine sLe.same ?_ ?_ <;> (simp; done)) | (refine sLe.clear ?_ ?_ <;> (first | (simp; done) | (simp; omega))) | (refine sLe.drop 1 ?_ ?_ ?_ <;> (simp; done))))
    · rw [hwy, if_neg (by simp)] at hmv
      have hset := hset _ hmv
      have hyl : (0 : Int) < (ys.length : Int) + 1 := by omega
      simp -dsimp [hki]
      repeat' (first | omega | (simp -dsimp [E25, ri, cellp, ints, Ro.row, pplV, Cl.row, Pn.row, hki, hk1, hkm, hml, hpk, hpk', hwd, hW, hwy, hyl, wk]) | (refine Also.intro ?_ fun _ => ?_) | (refine Hold.intro fun _ => ?_) | (refine And.intro ?_ ?_))
      refine ⟨k + 1, tle_chain rfl ?_, ?_, by omega, by omega⟩
      · simp [okAll, okv]
      · rw [← hset]; exact (by (try simp -dsimp only [hpush_noH, hpush_hps, hps_over]); refine hle_hps ?_; simp -dsimp [allK, Ro.row, pplV, Cl.row]; repeat' (first | (refine And.intro ?_ ?_) | (refine sLe.same ?_ ?_ <;> (simp; done)) | (refine sLe.clear ?_ ?_ <;> (first | (simp; done) | (simp; omega))) | (refine sLe.drop 1 ?_ ?_ ?_ <;> (simp; done))))
  have hkn : ¬ (k : Int) < r.ppl.length := by omega
  have hke : k = r.ppl.length := by omega
  subst hke
  have hat := fun k (hk : k < r.ppl.length) => mayL_at (mvW r l c) hk
  generalize mayL r.ppl.length (mvW r l c) r.ppl.length = M at *
  simp -dsimp [hkn]
  repeat' (first | omega | (simp -dsimp [E25, ri, cellp, ints, hkn, hml]) | (refine Also.intro ?_ fun _ => ?_) | (refine Hold.intro fun _ => ?_) | (refine And.intro ?_ ?_))
  refine awp_loop_g [(6, 2582, 2, 67)] rfl (by simp) [55, 56, 57, 58, 12, 13, 59, 60, 61, 62, 63, 64, 65, 14, 15, 66, 67, 68, 69, 70, 71, 72, 73, 74, 75, 76, 77, 78, 79, 80, 81, 82, 6, 83, 84, 54] (fun i : { i : Nat // i ≤ r.ppl.length } => [(54, (true, .int .i64 i.1)), (6, (true, .bsl 2582 0 (crOu r l c i.1).length))]) (fun i => hps [(2582, { base := 0, blks := [{ z := 2, els := (crOu r l c i.1).map prw, ty := 67 }] }), (2511, { base := r.ppl.length, blks := [] }), (2527, { base := 0, blks := [{ z := 1, els := M.map ri, ty := 3 }] }), (2503, { base := 0, blks := [{ z := 6, els := [r.row], ty := 33 }] }), (2505, { base := 0, blks := [{ z := 4, els := [c.row], ty := 36 }] })] noH) (fun i => r.ppl.length - i.1) ⟨0, by omega⟩ ?_ ?_ ?_
  · simp [okAll, okv, crOu]
  · exact (by (try simp -dsimp only [hpush_noH, hpush_hps, hps_over]); refine hle_hps ?_; simp -dsimp [allK, Ro.row, pplV, Cl.row, crOu]; repeat' (first | (refine And.intro ?_ ?_) | (refine sLe.same ?_ ?_ <;> (simp; done)) | (refine sLe.clear ?_ ?_ <;> (first | (simp; done) | (simp; omega))) | (refine sLe.drop 1 ?_ ?_ ?_ <;> (simp; done))))
  rintro ⟨i, hi⟩
  dsimp only
  have hol := crOu_len r l c i
  by_cases hi1 : i < r.ppl.length
  case neg =>
    have hin : ¬ (i : Int) < r.ppl.length := by omega
    have hie : i = r.ppl.length := by omega
    subst hie
    simp -dsimp [hin]
    repeat' (first | omega | (simp -dsimp [E25, ri, cellp, ints, hin, hend, hK]) | (refine Also.intro ?_ fun _ => ?_) | (refine Hold.intro fun _ => ?_) | (refine And.intro ?_ ?_))
  have hii : (i : Int) < r.ppl.length := by omega
  have wi : IntKind.wrap .i64 ((i : Int) + 1) = (i + 1 : Nat) := wrap_id (by omega) (by omega)
  have hxi := hat i hi1
  have hMi : i < M.length := by omega
  have hxi' : M[i] = mvW r l c i := (List.getElem?_eq_some_iff.1 hxi).2
  have hos := crOu_succ r l c i
  simp -dsimp [hii]
  repeat' (first | omega | (simp -dsimp [E25, ri, cellp, ints, hii, hi1, hMi, hml, hxi, hxi']) | (refine Also.intro ?_ fun _ => ?_) | (refine Hold.intro fun _ => ?_) | (refine And.intro ?_ ?_))
  refine awp_loop [62, 63, 64, 65, 14, 15, 66, 67, 68, 69, 70, 71, 72, 73, 74, 75, 76, 77, 78, 79, 80, 81, 82, 6, 83, 61] (fun j : { j : Nat // j ≤ r.ppl.length } => [(61, (true, .int .i64 j.1)), (6, (true, .bsl 2582 0 ((crOu r l c i).length + (crIn r l c i j.1).length)))]) (fun j => hps [(2582, { base := 0, blks := [{ z := 2, els := (crOu r l c i ++ crIn r l c i j.1).map prw, ty := 67 }] }), (2511, { base := r.ppl.length, blks := [] }), (2527, { base := 0, blks := [{ z := 1, els := M.map ri, ty := 3 }] }), (2503, { base := 0, blks := [{ z := 6, els := [r.row], ty := 33 }] }), (2505, { base := 0, blks := [{ z := 4, els := [c.row], ty := 36 }] })] noH) (fun j => r.ppl.length - j.1) ⟨0, by omega⟩ ?_ ?_ ?_
  · simp [okAll, okv, crIn]
  · exact (by (try simp -dsimp only [hpush_noH, hpush_hps, hps_over]); refine hle_hps ?_; simp -dsimp [allK, Ro.row, pplV, Cl.row, crIn]; repeat' (first | (refine And.intro ?_ ?_) | (refine sLe.same ?_ ?_ <;> (simp; done)) | (refine sLe.clear ?_ ?_ <;> (first | (simp; done) | (simp; omega))) | (refine sLe.drop 1 ?_ ?_ ?_ <;> (simp; done))))
  rintro ⟨j, hj⟩
  dsimp only
  have hil := crIn_len r l c i j
  by_cases hj1 : j < r.ppl.length
  case neg =>
    have hjn : ¬ (j : Int) < r.ppl.length := by omega
    have hje : j = r.ppl.length := by omega
    subst hje
    simp -dsimp [hjn]
    repeat' (first | omega | (simp -dsimp [E25, ri, cellp, ints, hjn, wi]) | (refine Also.intro ?_ fun _ => ?_) | (refine Hold.intro fun _ => ?_) | (refine And.intro ?_ ?_))
    refine ⟨i + 1, tle_kept (kept_upds rfl (kept_forget rfl (kept_upds rfl kept_base))) ?_, ?_, by omega, by omega⟩
    · simp [okAll, okv, hos]
    · rw [hos]; exact (by (try simp -dsimp only [hpush_noH, hpush_hps, hps_over]); refine hle_hps ?_; simp -dsimp [allK, Ro.row, pplV, Cl.row]; repeat' (first | (refine And.intro ?_ ?_) | (refine sLe.same ?_ ?_ <;> (simp; done)) | (refine sLe.clear ?_ ?_ <;> (first | (simp; done) | (simp; omega))) | (refine sLe.drop 1 ?_ ?_ ?_ <;> (simp; done))))
  have hji : (j : Int) < r.ppl.length := by omega
  have wj : IntKind.wrap .i64 ((j : Int) + 1) = (j + 1 : Nat) := wrap_id (by omega) (by omega)
  have hxj := hat j hj1
  have hMj : j < M.length := by omega
  have hxj' : M[j] = mvW r l c j := (List.getElem?_eq_some_iff.1 hxj).2
  have his := crIn_succ r l c i j
  have hmw := mayW_mv r l c i j
  have hol2 : (crOu r l c i).length ≤ 1000 := by
    have : i * r.ppl.length ≤ 12 * 12 := Nat.mul_le_mul (by omega) hn12
    omega
  generalize mvW r l c i = mi at *
  generalize mvW r l c j = mj at *
  by_cases hall : (i ≠ j ∧ 2 ≤ mi) ∧ 1 ≤ mj
  · obtain ⟨⟨a1, a2⟩, a3⟩ := hall
    have a1' : (i = j) = False := eq_false a1
    have a1i : ((i : Int) = j) = False := eq_false (by omega)
    rw [if_pos (by rw [hmw, decide_eq_true a1, decide_eq_true a2, decide_eq_true a3]; rfl)] at his
    have hb : ((crOu r l c i).length + (crIn r l c i j).length + 1) * 16 ≤ 140737488355328 := by omega
    simp -dsimp [hji]
    repeat' (first | omega | (simp -dsimp [E25, ri, cellp, ints, hji, hj1, hMj, hml, hxj, hxj', a1', a1i, a2, a3, hb, wj]) | (refine Also.intro ?_ fun _ => ?_) | (refine Hold.intro fun _ => ?_) | (refine And.intro ?_ ?_))
    refine ⟨j + 1, tle_chain rfl ?_, ?_, by omega, by omega⟩
    · simp [okAll, okv, his, Nat.add_assoc]
    · rw [his]; exact (by (try simp -dsimp only [hpush_noH, hpush_hps, hps_over]); refine hle_hps ?_; simp -dsimp [allK, Ro.row, pplV, Cl.row, prw]; repeat' (first | (refine And.intro ?_ ?_) | (refine sLe.same ?_ ?_ <;> (simp; done)) | (refine sLe.clear ?_ ?_ <;> (first | (simp; done) | (simp; omega))) | (refine sLe.drop 1 ?_ ?_ ?_ <;> (simp; done))))
  · rw [if_neg (by rw [hmw]; simp only [Bool.and_eq_true, decide_eq_true_eq]; exact hall)] at his
    by_cases a1 : i = j
    · subst a1
      simp -dsimp [hji]
      repeat' (first | omega | (simp -dsimp [E25, ri, cellp, ints, hji, hj1, hMj, hml, hxj, hxj', wj]) | (refine Also.intro ?_ fun _ => ?_) | (refine Hold.intro fun _ => ?_) | (refine And.intro ?_ ?_))
      refine ⟨i + 1, tle_chain rfl ?_, ?_, by omega, by omega⟩
      · simp [okAll, okv, his]
      · rw [his]; exact (by (try simp -dsimp only [hpush_noH, hpush_hps, hps_over]); refine hle_hps ?_; simp -dsimp [allK, Ro.row, pplV, Cl.row]; repeat' (first | (refine And.intro ?_ ?_) | (refine sLe.same ?_ ?_ <;> (simp; done)) | (refine sLe.clear ?_ ?_ <;> (first | (simp; done) | (simp; omega))) | (refine sLe.drop 1 ?_ ?_ ?_ <;> (simp; done))))
    · have a1' : (i = j) = False := eq_false a1
      have a1i : ((i : Int) = j) = False := eq_false (by omega)
      by_cases a2 : 2 ≤ mi
      · have a3 : (1 ≤ mj) = False := eq_false fun h => hall ⟨⟨a1, a2⟩, h⟩
        simp -dsimp [hji]
        repeat' (first | omega | (simp -dsimp [E25, ri, cellp, ints, hji, hj1, hMj, hml, hxj, hxj', a1', a1i, a2, a3, wj]) | (refine Also.intro ?_ fun _ => ?_) | (refine Hold.intro fun _ => ?_) | (refine And.intro ?_ ?_))
        refine ⟨j + 1, tle_chain rfl ?_, ?_, by omega, by omega⟩
        · simp [okAll, okv, his]
        · rw [his]; exact (by (try simp -dsimp only [hpush_noH, hpush_hps, hps_over]); refine hle_hps ?_; simp -dsimp [allK, Ro.row, pplV, Cl.row]; repeat' (first | (refine And.intro ?_ ?_) | (refine sLe.same ?_ ?_ <;> (simp; done)) | (refine sLe.clear ?_ ?_ <;> (first | (simp; done) | (simp; omega))) | (refine sLe.drop 1 ?_ ?_ ?_ <;> (simp; done))))
      · replace a2 : (2 ≤ mi) = False := eq_false a2
        simp -dsimp [hji]
        repeat' (first | omega | (simp -dsimp [E25, ri, cellp, ints, hji, hj1, hMj, hml, hxj, hxj', a1', a1i, a2, wj]) | (refine Also.intro ?_ fun _ => ?_) | (refine Hold.intro fun _ => ?_) | (refine And.intro ?_ ?_))
        refine ⟨j + 1, tle_chain rfl ?_, ?_, by omega, by omega⟩
        · simp [okAll, okv, his]
        · rw [his]; exact (by (try simp -dsimp only [hpush_noH, hpush_hps, hps_over]); refine hle_hps ?_; simp -dsimp [allK, Ro.row, pplV, Cl.row]; repeat' (first | (refine And.intro ?_ ?_) | (refine sLe.same ?_ ?_ <;> (simp; done)) | (refine sLe.clear ?_ ?_ <;> (first | (simp; done) | (simp; omega))) | (refine sLe.drop 1 ?_ ?_ ?_ <;> (simp; done))))
theorem ok25 : FnOK Try.prog 25 (.pure CrwS) := pure_fn (E := E25) rfl (.cons ok41 (.cons ok43 (.cons ok44 .nil))) (ok := []) (fn := Try.f25) (by kernel_rfl) (by kernel_rfl) (by kernel_rfl) (by kernel_rfl) rfl (fun _ _ => by simp) b25
end Go.Sx
end
section
/- Crew: the law of the pairs that may fly. No conditions. -/
set_option linter.unusedSimpArgs false
set_option linter.unusedSectionVars false
set_option maxRecDepth 100000
set_option maxHeartbeats 2000000
namespace Go.Sx
open Go.Proofs
attribute [local irreducible] HLe

/-- The rule for loops whose heap is what it was, but for some sites. -/
theorem awp_loop_h {E : Env} {ok : Alts} {c : Code} {t : Nat → Bool × V} {h : Hp} {Q : Ex → St → Prop} {ι : Type} (ws : List Nat) (L : ι → List (Nat × (Bool × V))) (K : ι → List (Nat × Site)) (m : ι → Nat) (i0 : ι)
    (h1 : okAll t (L i0)) (h2 : HLe h (hps (K i0) h))
    (h3 : ∀ i, awp E ok c { t := upds (L i) (forget ws t), h := hps (K i) h } fun e st' => match e with
      | .normal => ∃ j, TLe st'.t (upds (L j) (forget ws t)) ∧ HLe st'.h (hps (K j) h) ∧ m j < m i
      | e => Q e st') : awp E ok (.loop c) { t := t, h := h } Q := awp_loop ws L (fun i => hps (K i) h) m i0 h1 h2 h3
namespace H18
/-- Duties in new memory. -/
def dluS : HSpec where
  go args h := match args with
    | [.sl z els] => ⟨z = 3 ∧ els.length ≤ 1000000, .bsl 1803 (hnext h 1803) els.length, hpush h 1803 { z := 3, els := els, ty := 66 }⟩
    | _ => ⟨False, .top, h⟩
noncomputable abbrev E18 : Env := { P := Try.prog, fn := tbl [], own := [3], key := 1800, nt := 6 }
theorem b18 : HeapBody E18 [] Try.f18 dluS := by
  intro args h hc
  match args, hc with
  | [.sl z els], hc =>
    obtain ⟨rfl, hb⟩ := hc
    have hn := fun B => hget_push_new h 1803 B
    simp -dsimp [Try.f18, E18, dluS]
    repeat' (first | omega | (simp -dsimp [E18, ri, cellp, ints, hn, hb, hset_push, hle_refl]) | (refine Also.intro ?_ fun _ => ?_) | (refine Hold.intro fun _ => ?_) | (refine And.intro ?_ ?_))
theorem ok18 : FnOK Try.prog 18 (.heap dluS) := heap_fn (E := E18) rfl LOK.nil (ok := []) (fn := Try.f18) (by kernel_rfl) (by kernel_rfl) (by kernel_rfl) (by kernel_rfl) rfl (fun args h hc => by match args, hc with | [.sl z els], hc => simp) b18
theorem dluS_go (els : List (List V)) (h : Hp) : dluS.go [.sl 3 els] h = ⟨els.length ≤ 1000000, .bsl 1803 (hnext h 1803) els.length, hpush h 1803 { z := 3, els := els, ty := 66 }⟩ := by simp [dluS]
end H18

theorem duOkW_app {r : Ro} {l m : List Du} {i : Nat} (h : i < l.length) : duOkW srtD r (l ++ m) i = duOkW srtD r l i := by
  unfold duOkW
  rw [duAt_app h, List.take_append_of_le_length (by omega)]
  cases i with
  | zero => rfl
  | succ i => rw [show i + 1 - 1 = i by omega, duAt_app (by omega)]
theorem duOkW_all {r : Ro} {l : List Du} (h : (chkEW srtD r l).2 = 0) : r.ok = true ∧ ∀ j, j < l.length → duOkW srtD r l j = true := by
  unfold chkEW at h
  split at h
  · rename_i h1
    split at h
    · simp at h
    · split at h
      · simp at h
      · rename_i h3
        refine ⟨h1, fun j hj => ?_⟩
        apply Classical.byContradiction
        intro hne
        have h0 := idxZ_any (List.range l.length) (fun i => !duOkW srtD r l i)
        rw [decide_eq_false (by rw [badDuW] at h3; exact h3)] at h0
        have := (List.any_eq_false.1 h0.symm) j (List.mem_range.2 hj)
        simp at this; exact hne this
  · simp at h
/-- Two more duties. -/
theorem chkEW_two {r : Ro} {l : List Du} {a b x y : Int} (h : (chkEW srtD r l).2 = 0) (hn : l.length + 2 ≤ 60) (hl : l = [] ∨ (duAt l (l.length - 1)).a ≤ x) (hs : strW x y = true) (hab : a ≠ b)
    (ha : 0 ≤ a ∧ a ≤ r.ppl.length - 1) (hb : 0 ≤ b ∧ b ≤ r.ppl.length - 1) (h1 : brkW srtD r (own l a) ⟨a, x, y⟩ = []) (h2 : brkW srtD r (own l b) ⟨b, x, y⟩ = []) : chkEW srtD r (l ++ [⟨a, x, y⟩, ⟨b, x, y⟩]) = (0, 0) := by
  obtain ⟨hok, hall⟩ := duOkW_all h
  refine chk_ok hok (by simp; omega) fun j hj => ?_
  simp only [List.length_append, List.length_cons, List.length_nil] at hj
  by_cases hj1 : j < l.length
  · rw [duOkW_app hj1]; exact hall j hj1
  by_cases hj2 : j = l.length
  · subst hj2
    have e : duAt (l ++ [⟨a, x, y⟩, ⟨b, x, y⟩]) l.length = ⟨a, x, y⟩ := by simp [duAt, List.getD]
    unfold duOkW
    rw [e, List.take_left' rfl, h1]
    simp only [Bool.and_eq_true]
    refine ⟨⟨⟨decide_eq_true ha, hs⟩, ?_⟩, rfl⟩
    rcases hl with hl | hl
    · simp [hl]
    · by_cases h0 : l.length = 0
      · simp [h0]
      · rw [duAt_app (by omega)]
        simp [hl]
  · have hj3 : j = l.length + 1 := by omega
    subst hj3
    have e : duAt (l ++ [⟨a, x, y⟩, ⟨b, x, y⟩]) (l.length + 1) = ⟨b, x, y⟩ := by simp [duAt, List.getD]
    have e2 : duAt (l ++ [⟨a, x, y⟩, ⟨b, x, y⟩]) (l.length + 1 - 1) = ⟨a, x, y⟩ := by simp [duAt, List.getD]
    have e3 : (l ++ [(⟨a, x, y⟩ : Du), ⟨b, x, y⟩]).take (l.length + 1) = l ++ [⟨a, x, y⟩] := by
      rw [List.take_append, List.take_of_length_le (by omega)]; simp
    unfold duOkW
    rw [e, e2, e3, own_other (by simpa using hab), h2]
    simp only [Bool.and_eq_true]
    exact ⟨⟨⟨decide_eq_true hb, hs⟩, by simp⟩, rfl⟩
theorem chE_dec2 (r : Ro) (l : List Du) (a b x y : Int) : decC chE [.agg [.sl 3 (r.ppl.map Pn.row), .int .i64 r.lng, .int .i64 r.rst, .int .i64 r.win, .int .i64 r.tot, .int .i64 r.rcn], .sl 3 (l.map Du.row ++ [[.int .i64 a, .int .i64 x, .int .i64 y], [.int .i64 b, .int .i64 x, .int .i64 y]])] = (r, l ++ [⟨a, x, y⟩, ⟨b, x, y⟩]) := by
  have := chE_dec r (l ++ [⟨a, x, y⟩, ⟨b, x, y⟩])
  rw [List.map_append] at this
  exact this
theorem crw_mem {r : Ro} {l : List Du} {c : Cl} {p : Int × Int} (h : p ∈ crwW srtD r l c) : ∃ i k : Nat, p = ((i : Int), (k : Int)) ∧ i < r.ppl.length ∧ k < r.ppl.length ∧ i ≠ k ∧ (2 ≤ (pnAt r i).rank ∧ whyW srtD r l i c = []) ∧ 1 ≤ (pnAt r k).rank ∧ whyW srtD r l k c = [] := by
  unfold crwW at h
  obtain ⟨i, hi, h⟩ := List.mem_flatMap.1 h
  obtain ⟨k, hk, rfl⟩ := List.mem_map.1 h
  obtain ⟨hk, hm⟩ := List.mem_filter.1 hk
  simp only [mayW, Bool.and_eq_true, decide_eq_true_eq, List.isEmpty_iff] at hm
  exact ⟨i, k, rfl, by simpa using hi, by simpa using hk, hm.1.1, hm.1.2, hm.2⟩
theorem whyW_brk {r : Ro} {l : List Du} {n : Int} {c : Cl} (h : whyW srtD r l n c = []) : brkW srtD r (own l n) ⟨n, c.a, c.b⟩ = [] := by
  unfold whyW at h
  exact (List.append_eq_nil_iff.1 h).2
noncomputable abbrev trueAddS : PSpec := mkP crE (fun _ => True) fun _ => .bool true
noncomputable abbrev E6 : Env := { P := Try.prog, fn := tbl [(14, .pure farS), (9, .pure worksS), (24, .pure ckRS), (17, .pure cpyS), (18, .heap H18.dluS), (25, .pure CrwS), (16, .pure WhyS), (26, .pure chS)], own := [], key := 600, nt := 197, frz := [(7, [9, 50009, 5, 50005])], cfz := [(47, [1803]), (137, [1803]), (146, [1803])] }
theorem b6 : PureBody E6 [(7, ([0, 3], [[0, 1, 2, 3, 4, 5, 6, 7, 8, 9]])), (17, ([0, 4], [[0, 1, 2, 3, 4, 5, 6, 7, 8, 9, 10]])), (18, ([0, 4], [[0, 1, 2, 3, 4, 5, 6, 7, 8, 9, 10]])), (22, ([0, 5, 7, 11, 13], [[0, 1, 2, 3, 4, 5, 6, 7, 8, 9, 10, 11, 12, 13, 14, 15, 16, 17, 18, 19, 20, 21, 22]]))] Try.f6 trueAddS := by
  refine pb ?_
  rintro ⟨r, l, c⟩ _
  by_cases hfar : 20 < r.ppl.length ∨ 80 < l.length
  · have hfar' : (decide (20 < r.ppl.length) || decide (80 < l.length)) = true := by
      rcases hfar with h | h <;> simp [h]
    simp -dsimp [Try.f6, E6, Ro.row, pplV, Cl.row]
    repeat' (first | omega | (simp -dsimp [E6, ri, cellp, ints, Ro.row, pplV, Cl.row, chE_dec, hfar']) | (refine Also.intro ?_ fun _ => ?_) | (refine Hold.intro fun _ => ?_) | (refine And.intro ?_ ?_))
  have hp6 : r.ppl.length ≤ 1000000 := by omega
  have hl6 : l.length ≤ 1000000 := by omega
  have hl80 : l.length ≤ 80 := by omega
  have hp20 : r.ppl.length ≤ 20 := by omega
  have hfar' : (decide (20 < r.ppl.length) || decide (80 < l.length)) = false := by
    rw [decide_eq_false (by omega), decide_eq_false (by omega)]; rfl
  clear hfar
  by_cases h60 : 60 ≤ l.length
  · have h60i : ((60 : Int) ≤ l.length) = True := eq_true (by omega)
    simp -dsimp [Try.f6, E6, Ro.row, pplV, Cl.row]
    repeat' (first | omega | (simp -dsimp [E6, ri, cellp, ints, Ro.row, pplV, Cl.row, chE_dec, hfar', h60i]) | (refine Also.intro ?_ fun _ => ?_) | (refine Hold.intro fun _ => ?_) | (refine And.intro ?_ ?_))
  have h60i : ((60 : Int) ≤ l.length) = False := eq_false (by omega)
  have hChP : ChP (r, l) := ⟨hp6, hl6⟩
  by_cases hck : (chkE r l).2 = 0
  case neg =>
    have hck' : ((chkE r l).2 = 0) = False := eq_false hck
    simp -dsimp [Try.f6, E6, Ro.row, pplV, Cl.row]
    repeat' (first | omega | (simp -dsimp [E6, ri, cellp, ints, Ro.row, pplV, Cl.row, chE_dec, hfar', h60i, hChP, hck']) | (refine Also.intro ?_ fun _ => ?_) | (refine Hold.intro fun _ => ?_) | (refine And.intro ?_ ?_))
  have hW0 := chkEW_of srtD_ok hck
  have hCrP : CrP (r, l, c) := ⟨hp6, hl6⟩
  cases hcall : callW c
  · have hcr : crwO r l c = ([], 1) := by
      unfold crwO chk2W
      rw [hcall, hW0]; rfl
    simp -dsimp [Try.f6, E6, FreeAt, Ro.row, pplV, Cl.row]
    repeat' (first | omega | (simp -dsimp [E6, ri, cellp, ints, FreeAt, Ro.row, pplV, Cl.row, chE_dec, roE_dec, crE_dec, H18.dluS_go, hfar', h60i, hChP, hck, hp6, hl6, hCrP, hcr]) | (refine Also.intro ?_ fun _ => ?_) | (refine Hold.intro fun _ => ?_) | (refine And.intro ?_ ?_))
  have hcr : crwO r l c = (crwW srtD r l c, 0) := by
    unfold crwO chk2W
    rw [hcall, hW0]; rfl
  have hstr : strW c.a c.b = true := by
    simp only [callW, Bool.and_eq_true] at hcall; exact hcall.1
  have hmem := fun p (h : p ∈ crwW srtD r l c) => crw_mem h
  have hwy : ∀ k : Nat, k < r.ppl.length → whyW srtD r l k c = [] → whyO r l k c = ([], 0) := fun k hk h => by
    have hb : (withinB (k : Int) 0 (r.ppl.length - 1) && callW c) = true := by
      rw [hcall, Bool.and_true]; exact decide_eq_true ⟨by omega, by omega⟩
    unfold whyO chk2W
    rw [hb, hW0, if_pos rfl, h]; rfl
  have hPl : (crwW srtD r l c).length ≤ 1000 := by
    have h1 := crOu_len r l c r.ppl.length
    rw [crOu_end] at h1
    have : r.ppl.length * r.ppl.length ≤ 20 * 20 := Nat.mul_le_mul hp20 hp20
    omega
  generalize crwW srtD r l c = P at *
  have hWyP : ∀ n, WyP (r, l, n, c) := fun n => ⟨hp6, hl6⟩
  have hChP2 : ∀ a b, ChP (r, l ++ [⟨a, c.a, c.b⟩, ⟨b, c.a, c.b⟩]) := fun a b => ⟨hp6, by simp; omega⟩
  have htwo : ∀ i k : Nat, i < r.ppl.length → k < r.ppl.length → i ≠ k → whyW srtD r l i c = [] → whyW srtD r l k c = [] → l.length + 2 ≤ 60 → (l = [] ∨ (duAt l (l.length - 1)).a ≤ c.a) → chkEW srtD r (l ++ [⟨i, c.a, c.b⟩, ⟨k, c.a, c.b⟩]) = (0, 0) := fun i k hi hk hik h1 h2 hn ho =>
    chkEW_two (by rw [hW0]) hn ho hstr (by omega) ⟨by omega, by omega⟩ ⟨by omega, by omega⟩ (whyW_brk h1) (whyW_brk h2)
  have wl2 : IntKind.wrap .i64 ((l.length : Int) + 2) = l.length + 2 := wrap_id (by omega) (by omega)
  by_cases hl0 : l = []
  · obtain ⟨ls, hls⟩ : ∃ ls, true = ls := ⟨_, rfl⟩
    have hlast : ls = true → (l = [] ∨ (duAt l (l.length - 1)).a ≤ c.a) := fun _ => .inl hl0
    have hl0e : (l = []) = True := eq_true hl0
    have hl00 : l.length = 0 := by rw [hl0]; rfl
    have hl0i : ((l.length : Int) = 0) = True := eq_true (by omega)
    have hl0b : ((l.length : Int) == 0) = true := by simpa using hl0
    simp -dsimp [Try.f6, E6, FreeAt, Ro.row, pplV, Cl.row]
    repeat' (first | omega | (simp -dsimp [E6, ri, cellp, ints, FreeAt, Ro.row, pplV, Cl.row, chE_dec, roE_dec, crE_dec, whE_dec, H18.dluS_go, hfar', h60i, hChP, hck, hp6, hl6, hCrP, hcr, hl0e, hl0i, hl0b, Du.row]) | (refine Also.intro ?_ fun _ => ?_) | (refine Hold.intro fun _ => ?_) | (refine And.intro ?_ ?_))
    subst hls
    refine awp_loop_h [72, 73, 74, 75, 78, 79, 80, 81, 82, 83, 84, 85, 86, 87, 14, 15, 88, 89, 90, 91, 92, 93, 94, 95, 96, 97, 98, 99, 100, 101, 102, 103, 104, 105, 106, 107, 108, 109, 110, 111, 112, 113, 114, 115, 116, 117, 118, 119, 120, 121, 122, 123, 124, 125, 126, 127, 128, 129, 130, 6, 132, 133, 134, 135, 136, 137, 131, 138, 139, 16, 17, 141, 142, 143, 144, 145, 146, 140, 147, 148, 18, 19, 149, 150, 151, 152, 153, 154, 155, 156, 157, 158, 159, 160, 161, 162, 163, 164, 165, 166, 167, 168, 169, 170, 171, 172, 174, 175, 176, 177, 178, 179, 180, 181, 182, 183, 184, 185, 186, 187, 188, 189, 190, 191, 173, 192, 193, 20, 21, 194, 195, 76, 77, 13] (fun k : { k : Nat // k ≤ P.length } => [(13, (true, .int .i64 k.1))]) (fun k => [(1803, { base := 1 + 3 * k.1, blks := [] })]) (fun k => P.length - k.1) ⟨0, by omega⟩ ?_ ?_ ?_
    · simp [okAll, okv]
    · try simp -dsimp only [hps_app, List.cons_append, List.nil_append]
      exact (by (try simp -dsimp only [hpush_noH, hpush_hps, hps_over]); refine hle_hps ?_; simp -dsimp [allK, ]; repeat' (first | (refine And.intro ?_ ?_) | (refine sLe.same ?_ ?_ <;> (simp; done)) | (refine sLe.clear ?_ ?_ <;> (first | (simp; done) | (simp; omega))) | (refine sLe.drop 1 ?_ ?_ ?_ <;> (simp; done))))
    rintro ⟨k, hk⟩
    dsimp only
    by_cases hk1 : k < P.length
    case neg =>
      have hkn : ¬ (k : Int) < P.length := by omega
      simp -dsimp [hkn]
      repeat' (first | omega | (simp -dsimp [E6, ri, cellp, ints, hkn]) | (refine Also.intro ?_ fun _ => ?_) | (refine Hold.intro fun _ => ?_) | (refine And.intro ?_ ?_))
    have hki : (k : Int) < P.length := by omega
    have wk : IntKind.wrap .i64 ((k : Int) + 1) = (k + 1 : Nat) := wrap_id (by omega) (by omega)
    obtain ⟨p, hpk⟩ : ∃ p, P[k]? = some p := ⟨_, List.getElem?_eq_getElem hk1⟩
    have hpk' : P[k] = p := (List.getElem?_eq_some_iff.1 hpk).2
    obtain ⟨ia, ka, rfl, hia, hka, hne0, ⟨hri, hwi⟩, hrk, hwk⟩ := hmem p (by rw [← hpk']; exact List.getElem_mem hk1)
    have hw1 := hwy ia hia hwi
    have hw2 := hwy ka hka hwk
    have hne : ((ia : Int) = ka) = False := eq_false (by omega)
    have hi0 : ((ia : Int) < 0) = False := eq_false (by omega)
    have hk0 : ((ka : Int) < 0) = False := eq_false (by omega)
    have hin : ((r.ppl.length : Int) ≤ ia) = False := eq_false (by omega)
    have hkn2 : ((r.ppl.length : Int) ≤ ka) = False := eq_false (by omega)
    obtain ⟨pi, hpi⟩ : ∃ p, r.ppl[ia]? = some p := ⟨_, List.getElem?_eq_getElem hia⟩
    have hpi' : r.ppl[ia] = pi := (List.getElem?_eq_some_iff.1 hpi).2
    obtain ⟨pk, hpk2⟩ : ∃ p, r.ppl[ka]? = some p := ⟨_, List.getElem?_eq_getElem hka⟩
    have hpk2' : r.ppl[ka] = pk := (List.getElem?_eq_some_iff.1 hpk2).2
    have hiai : (ia : Int) < r.ppl.length := by omega
    have hkai : (ka : Int) < r.ppl.length := by omega
    have hri2 : (pi.rank < 2) = False := eq_false (by rw [show pnAt r ia = pi by simp [pnAt, List.getD, hpi]] at hri; omega)
    have hrk2 : (pk.rank < 1) = False := eq_false (by rw [show pnAt r ka = pk by simp [pnAt, List.getD, hpk2]] at hrk; omega)
    have g1 : (1 + 3 * k + 1 < 1 + 3 * k) = False := eq_false (by omega)
    have g2 : (1 + 3 * k + 1 + 1 < 1 + 3 * k) = False := eq_false (by omega)
    have g3 : (1 + 3 * k + 2 < 1 + 3 * k) = False := eq_false (by omega)
    have hn60 : l.length + 2 ≤ 60 := by omega
    have h62 : ((60 : Int) < l.length + 2) = False := eq_false (by omega)
    have ht2 := htwo ia ka hia hka hne0 hwi hwk hn60 (hlast rfl)
    have hCh := hChP2 ia ka
    have hb8 : (l.length + 2) * 24 ≤ 140737488355328 := by omega
    simp -dsimp [hki]
    repeat' (first | omega | (simp -dsimp [E6, ri, cellp, ints, FreeAt, hps_app, List.cons_append, List.nil_append, Ro.row, pplV, Cl.row, Pn.row, whE_dec, chE_dec2, H18.dluS_go, prw, hki, hk1, hpk, hpk', hia, hka, hne, hi0, hk0, hin, hkn2, hpi, hpi', hpk2, hpk2', hri, hrk, hri2, hrk2, hp6, hl6, hw1, hw2, hWyP, wl2, g1, g2, g3, Du.row, hiai, hkai, h62, ht2, hCh, hb8, wk]) | (refine Also.intro ?_ fun _ => ?_) | (refine Hold.intro fun _ => ?_) | (refine And.intro ?_ ?_))
    refine ⟨k + 1, tle_chain rfl ?_, ?_, by omega, by omega⟩
    · simp [okAll, okv]
    · try simp -dsimp only [hps_app, List.cons_append, List.nil_append]
      exact (by (try simp -dsimp only [hpush_noH, hpush_hps, hps_over]); refine hle_hps ?_; simp -dsimp [allK, ]; repeat' (first | (refine And.intro ?_ ?_) | (refine sLe.same ?_ ?_ <;> (simp; done)) | (refine sLe.clear ?_ ?_ <;> (first | (simp; done) | (simp; omega))) | (refine sLe.drop 1 ?_ ?_ ?_ <;> (simp; done))))
  · obtain ⟨j, hj⟩ : ∃ j, l.length = j + 1 := ⟨l.length - 1, by have := List.length_pos_iff.2 hl0; omega⟩
    have hjl : j < l.length := by omega
    have hji : (j : Int) < l.length := by omega
    obtain ⟨d, hd⟩ : ∃ d, l[j]? = some d := ⟨_, List.getElem?_eq_getElem hjl⟩
    have hd' : l[j] = d := (List.getElem?_eq_some_iff.1 hd).2
    have hda : duAt l (l.length - 1) = d := by rw [hj]; simp [duAt, List.getD, hd]
    have wl : IntKind.wrap .i64 ((l.length : Int) - 1) = (j : Nat) := by rw [wrap_id (by omega) (by omega)]; omega
    have hl0i : ((l.length : Int) = 0) = False := eq_false (by omega)
    obtain ⟨ls, hls⟩ : ∃ ls, decide (d.a ≤ c.a) = ls := ⟨_, rfl⟩
    have hlast : ls = true → (l = [] ∨ (duAt l (l.length - 1)).a ≤ c.a) := fun h => .inr (by rw [hda]; rw [← hls] at h; simpa using h)
    replace hl0 : (l = []) = False := eq_false hl0
    simp -dsimp [Try.f6, E6, FreeAt, Ro.row, pplV, Cl.row]
    repeat' (first | omega | (simp -dsimp [E6, ri, cellp, ints, FreeAt, Ro.row, pplV, Cl.row, chE_dec, roE_dec, crE_dec, whE_dec, H18.dluS_go, hfar', h60i, hChP, hck, hp6, hl6, hCrP, hcr, hl0, hl0i, wl, hjl, hji, hd, hd', Du.row, hls]) | (refine Also.intro ?_ fun _ => ?_) | (refine Hold.intro fun _ => ?_) | (refine And.intro ?_ ?_))
    refine awp_loop_h [72, 73, 74, 75, 78, 79, 80, 81, 82, 83, 84, 85, 86, 87, 14, 15, 88, 89, 90, 91, 92, 93, 94, 95, 96, 97, 98, 99, 100, 101, 102, 103, 104, 105, 106, 107, 108, 109, 110, 111, 112, 113, 114, 115, 116, 117, 118, 119, 120, 121, 122, 123, 124, 125, 126, 127, 128, 129, 130, 6, 132, 133, 134, 135, 136, 137, 131, 138, 139, 16, 17, 141, 142, 143, 144, 145, 146, 140, 147, 148, 18, 19, 149, 150, 151, 152, 153, 154, 155, 156, 157, 158, 159, 160, 161, 162, 163, 164, 165, 166, 167, 168, 169, 170, 171, 172, 174, 175, 176, 177, 178, 179, 180, 181, 182, 183, 184, 185, 186, 187, 188, 189, 190, 191, 173, 192, 193, 20, 21, 194, 195, 76, 77, 13] (fun k : { k : Nat // k ≤ P.length } => [(13, (true, .int .i64 k.1))]) (fun k => [(1803, { base := 1 + 3 * k.1, blks := [] })]) (fun k => P.length - k.1) ⟨0, by omega⟩ ?_ ?_ ?_
    · simp [okAll, okv]
    · try simp -dsimp only [hps_app, List.cons_append, List.nil_append]
      exact (by (try simp -dsimp only [hpush_noH, hpush_hps, hps_over]); refine hle_hps ?_; simp -dsimp [allK, ]; repeat' (first | (refine And.intro ?_ ?_) | (refine sLe.same ?_ ?_ <;> (simp; done)) | (refine sLe.clear ?_ ?_ <;> (first | (simp; done) | (simp; omega))) | (refine sLe.drop 1 ?_ ?_ ?_ <;> (simp; done))))
    rintro ⟨k, hk⟩
    dsimp only
    by_cases hk1 : k < P.length
    case neg =>
      have hkn : ¬ (k : Int) < P.length := by omega
      simp -dsimp [hkn]
      repeat' (first | omega | (simp -dsimp [E6, ri, cellp, ints, hkn]) | (refine Also.intro ?_ fun _ => ?_) | (refine Hold.intro fun _ => ?_) | (refine And.intro ?_ ?_))
    have hki : (k : Int) < P.length := by omega
    have wk : IntKind.wrap .i64 ((k : Int) + 1) = (k + 1 : Nat) := wrap_id (by omega) (by omega)
    obtain ⟨p, hpk⟩ : ∃ p, P[k]? = some p := ⟨_, List.getElem?_eq_getElem hk1⟩
    have hpk' : P[k] = p := (List.getElem?_eq_some_iff.1 hpk).2
    obtain ⟨ia, ka, rfl, hia, hka, hne0, ⟨hri, hwi⟩, hrk, hwk⟩ := hmem p (by rw [← hpk']; exact List.getElem_mem hk1)
    have hw1 := hwy ia hia hwi
    have hw2 := hwy ka hka hwk
    have hne : ((ia : Int) = ka) = False := eq_false (by omega)
    have hi0 : ((ia : Int) < 0) = False := eq_false (by omega)
    have hk0 : ((ka : Int) < 0) = False := eq_false (by omega)
    have hin : ((r.ppl.length : Int) ≤ ia) = False := eq_false (by omega)
    have hkn2 : ((r.ppl.length : Int) ≤ ka) = False := eq_false (by omega)
    obtain ⟨pi, hpi⟩ : ∃ p, r.ppl[ia]? = some p := ⟨_, List.getElem?_eq_getElem hia⟩
    have hpi' : r.ppl[ia] = pi := (List.getElem?_eq_some_iff.1 hpi).2
    obtain ⟨pk, hpk2⟩ : ∃ p, r.ppl[ka]? = some p := ⟨_, List.getElem?_eq_getElem hka⟩
    have hpk2' : r.ppl[ka] = pk := (List.getElem?_eq_some_iff.1 hpk2).2
    have hiai : (ia : Int) < r.ppl.length := by omega
    have hkai : (ka : Int) < r.ppl.length := by omega
    have hri2 : (pi.rank < 2) = False := eq_false (by rw [show pnAt r ia = pi by simp [pnAt, List.getD, hpi]] at hri; omega)
    have hrk2 : (pk.rank < 1) = False := eq_false (by rw [show pnAt r ka = pk by simp [pnAt, List.getD, hpk2]] at hrk; omega)
    have g1 : (1 + 3 * k + 1 < 1 + 3 * k) = False := eq_false (by omega)
    have g2 : (1 + 3 * k + 1 + 1 < 1 + 3 * k) = False := eq_false (by omega)
    have g3 : (1 + 3 * k + 2 < 1 + 3 * k) = False := eq_false (by omega)
    by_cases hcon : ls = true ∧ l.length + 2 ≤ 60
    · obtain ⟨rfl, hn60⟩ := hcon
      have h62 : ((60 : Int) < l.length + 2) = False := eq_false (by omega)
      have ht2 := htwo ia ka hia hka hne0 hwi hwk hn60 (hlast rfl)
      have hCh := hChP2 ia ka
      have hb8 : (l.length + 2) * 24 ≤ 140737488355328 := by omega
      simp -dsimp [hki]
      repeat' (first | omega | (simp -dsimp [E6, ri, cellp, ints, FreeAt, hps_app, List.cons_append, List.nil_append, Ro.row, pplV, Cl.row, Pn.row, whE_dec, chE_dec2, H18.dluS_go, prw, hki, hk1, hpk, hpk', hia, hka, hne, hi0, hk0, hin, hkn2, hpi, hpi', hpk2, hpk2', hri, hrk, hri2, hrk2, hp6, hl6, hw1, hw2, hWyP, wl2, g1, g2, g3, Du.row, hiai, hkai, h62, ht2, hCh, hb8, wk]) | (refine Also.intro ?_ fun _ => ?_) | (refine Hold.intro fun _ => ?_) | (refine And.intro ?_ ?_))
      refine ⟨k + 1, tle_chain rfl ?_, ?_, by omega, by omega⟩
      · simp [okAll, okv]
      · try simp -dsimp only [hps_app, List.cons_append, List.nil_append]
        exact (by (try simp -dsimp only [hpush_noH, hpush_hps, hps_over]); refine hle_hps ?_; simp -dsimp [allK, ]; repeat' (first | (refine And.intro ?_ ?_) | (refine sLe.same ?_ ?_ <;> (simp; done)) | (refine sLe.clear ?_ ?_ <;> (first | (simp; done) | (simp; omega))) | (refine sLe.drop 1 ?_ ?_ ?_ <;> (simp; done))))
    · cases ls with
      | false =>
        simp -dsimp [hki]
        repeat' (first | omega | (simp -dsimp [E6, ri, cellp, ints, FreeAt, hps_app, List.cons_append, List.nil_append, Ro.row, pplV, Cl.row, Pn.row, whE_dec, chE_dec2, H18.dluS_go, prw, hki, hk1, hpk, hpk', hia, hka, hne, hi0, hk0, hin, hkn2, hpi, hpi', hpk2, hpk2', hri, hrk, hri2, hrk2, hp6, hl6, hw1, hw2, hWyP, wl2, g1, g2, g3, Du.row, hiai, hkai, wk]) | (refine Also.intro ?_ fun _ => ?_) | (refine Hold.intro fun _ => ?_) | (refine And.intro ?_ ?_))
        refine ⟨k + 1, tle_chain rfl ?_, ?_, by omega, by omega⟩
        · simp [okAll, okv]
        · try simp -dsimp only [hps_app, List.cons_append, List.nil_append]
          exact (by (try simp -dsimp only [hpush_noH, hpush_hps, hps_over]); refine hle_hps ?_; simp -dsimp [allK, ]; repeat' (first | (refine And.intro ?_ ?_) | (refine sLe.same ?_ ?_ <;> (simp; done)) | (refine sLe.clear ?_ ?_ <;> (first | (simp; done) | (simp; omega))) | (refine sLe.drop 1 ?_ ?_ ?_ <;> (simp; done))))
      | true =>
        have hcon2 : ¬ l.length + 2 ≤ 60 := fun h => hcon ⟨rfl, h⟩
        have h62 : ((60 : Int) < l.length + 2) = True := eq_true (by omega)
        simp -dsimp [hki]
        repeat' (first | omega | (simp -dsimp [E6, ri, cellp, ints, FreeAt, hps_app, List.cons_append, List.nil_append, Ro.row, pplV, Cl.row, Pn.row, whE_dec, chE_dec2, H18.dluS_go, prw, hki, hk1, hpk, hpk', hia, hka, hne, hi0, hk0, hin, hkn2, hpi, hpi', hpk2, hpk2', hri, hrk, hri2, hrk2, hp6, hl6, hw1, hw2, hWyP, wl2, g1, g2, g3, Du.row, hiai, hkai, h62, wk]) | (refine Also.intro ?_ fun _ => ?_) | (refine Hold.intro fun _ => ?_) | (refine And.intro ?_ ?_))
        refine ⟨k + 1, tle_chain rfl ?_, ?_, by omega, by omega⟩
        · simp [okAll, okv]
        · try simp -dsimp only [hps_app, List.cons_append, List.nil_append]
          exact (by (try simp -dsimp only [hpush_noH, hpush_hps, hps_over]); refine hle_hps ?_; simp -dsimp [allK, ]; repeat' (first | (refine And.intro ?_ ?_) | (refine sLe.same ?_ ?_ <;> (simp; done)) | (refine sLe.clear ?_ ?_ <;> (first | (simp; done) | (simp; omega))) | (refine sLe.drop 1 ?_ ?_ ?_ <;> (simp; done))))
theorem ok6 : FnOK Try.prog 6 (.pure trueAddS) := pure_fn (E := E6) rfl (.cons ok14 (.cons ok9 (.cons ok24 (.cons ok17 (.cons H18.ok18 (.cons ok25 (.cons ok16 (.cons ok26 .nil)))))))) (ok := [(7, ([0, 3], [[0, 1, 2, 3, 4, 5, 6, 7, 8, 9]])), (17, ([0, 4], [[0, 1, 2, 3, 4, 5, 6, 7, 8, 9, 10]])), (18, ([0, 4], [[0, 1, 2, 3, 4, 5, 6, 7, 8, 9, 10]])), (22, ([0, 5, 7, 11, 13], [[0, 1, 2, 3, 4, 5, 6, 7, 8, 9, 10, 11, 12, 13, 14, 15, 16, 17, 18, 19, 20, 21, 22]]))]) (fn := Try.f6) (by kernel_rfl) (by kernel_rfl) (by kernel_rfl) (by kernel_rfl) rfl (fun _ _ => by simp) b6
end Go.Sx
end
