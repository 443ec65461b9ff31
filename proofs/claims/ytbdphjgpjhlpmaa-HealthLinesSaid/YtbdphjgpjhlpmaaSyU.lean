/- HealthSlopes: slope, Slope. No conditions. -/
import Derived.Test.YtbdphjgpjhlpmaaSyT
set_option linter.unusedSimpArgs false
set_option linter.unusedVariables false
set_option maxRecDepth 100000
set_option maxHeartbeats 1000000
namespace Go.Sx
open Go.Proofs

theorem med_go {h : Hp} {s i n : Nat} {B : Blk} {d : List Frc} (hB : hget h s i = some B) (c1 : B.fz = false) (c2 : B.z = 2) (c3 : B.ty = 35) (c4 : n = d.length) (c5 : 1 ≤ n) (c6 : n < 4611686018427387904) (hd : B.els = d.map (intR frL)) :
    medS.go [.bsl s i n] h = ⟨True, .agg (intR frL (medF d)), hpush (hset h s i { B with els := (frSrt d.toArray).toList.map (intR frL) }) 2502 (resB (medF d))⟩ := by
  have hun : B.els.map (unR frL) = d := by
    rw [hd, List.map_map]
    have : (unR frL ∘ intR frL) = id := funext fun x => unR_R frL_inj x
    rw [this, List.map_id]
  simp only [medS, hB, hun, medB]
  congr 1
  exact eq_true ⟨c1, c2, c3, by rw [c4, hd, List.length_map], c5, c6, d, hd⟩
theorem risB_lt {m : List Int} (h : risB m = true) : ∀ (j i : Nat) (hj : j < m.length), i < j → m.getD i 0 < m.getD j 0 := by
  simp only [risB, List.all_eq_true, List.mem_range] at h
  intro j
  induction j with
  | zero => intro i hj hi; omega
  | succ j ih =>
    intro i hj hi
    have h1 := h (j + 1) hj
    simp only [risAt, Bool.or_eq_true, beq_iff_eq, decide_eq_true_eq, Nat.add_sub_cancel] at h1
    have h2 : m.getD j 0 < m.getD (j + 1) 0 := by rcases h1 with h1 | h1; omega; exact h1
    by_cases e : i = j
    · subst e; exact h2
    · have := ih i (by omega) (by omega); omega
theorem gi {l : List Int} {i : Nat} (h : i < l.length) : l.getD i 0 = l[i] := by simp [List.getD, List.getElem?_eq_getElem h]
structure SlF (h v : List Int) : Prop where
  len : h.length = v.length
  n8 : v.length ≤ 8
  n1 : 1 ≤ v.length
  vb : ∀ k, -1000000 ≤ v.getD k 0 ∧ v.getD k 0 ≤ 1000000
  hb : ∀ k, 0 ≤ h.getD k 0 ∧ h.getD k 0 ≤ 1000000
  ris : ∀ (j i : Nat) (hj : j < h.length), i < j → h.getD i 0 < h.getD j 0
theorem all_getD {l : List Int} {lo hi : Int} (h : allB l lo hi = true) (h0 : lo ≤ 0 ∧ 0 ≤ hi) (k : Nat) : lo ≤ l.getD k 0 ∧ l.getD k 0 ≤ hi := by
  simp only [List.getD]
  cases hk : l[k]? with
  | none => simpa using h0
  | some x =>
    simp only [allB, List.all_eq_true] at h
    have := h x (List.mem_of_getElem? hk)
    simpa [withinB] using this
theorem slOk_facts {h v : List Int} (hs : slOk h v = true) : SlF h v := by
  simp only [slOk, Bool.and_eq_true, decide_eq_true_eq] at hs
  obtain ⟨⟨⟨h1, h2⟩, h3⟩, h4⟩ := hs
  simp only [validB, Bool.and_eq_true] at h1
  have := h1.1
  simp only [withinB, decide_eq_true_eq] at this
  exact ⟨h2, by omega, by omega, all_getD h1.2 (by omega), all_getD h3 (by omega), risB_lt h4⟩
theorem slTo_ok {h v : List Int} (F : SlF h v) {k : Nat} (hk : k ≤ v.length) : ∀ p ∈ slTo h v k, frOk p := by
  intro p hp
  unfold slTo slRow at hp
  rw [List.mem_flatMap] at hp
  obtain ⟨j, hj, hp⟩ := hp
  rw [List.mem_range] at hj
  obtain ⟨i, hi, rfl⟩ := List.mem_map.1 hp
  rw [List.mem_range] at hi
  have a1 := F.vb j; have a2 := F.vb i; have a3 := F.hb j; have a4 := F.hb i
  have a5 := F.ris j i (by rw [F.len]; omega) hi
  refine ⟨?_, ?_, ?_, ?_⟩ <;> simp only <;> omega
def slFr (h v : List Int) : List Frc := (slTo h v v.length).map mkFr
theorem slFr_rows {h v : List Int} (F : SlF h v) : (slTo h v v.length).map rowC = (slFr h v).map (intR frL) := by
  unfold slFr
  rw [List.map_map]
  refine List.map_congr_left fun p hp => ?_
  simp only [Function.comp, intR, frL, mkFr_val (slTo_ok F (Nat.le_refl _) p hp)]
  rfl
theorem slTo_pos (h v : List Int) {k : Nat} (hk : 2 ≤ k) : 1 ≤ (slTo h v k).length := by
  obtain ⟨m, rfl⟩ : ∃ m, k = m + 1 := ⟨k - 1, by omega⟩
  rw [slTo_succ, List.length_append, slRow_length]; omega
def slPart (h v : List Int) (k i : Nat) : List (Int × Int) := slTo h v k ++ slRow h v k i
theorem slPart_zero (h v : List Int) (k : Nat) : slPart h v k 0 = slTo h v k := by simp [slPart, slRow]
theorem slPart_full (h v : List Int) (k : Nat) : slPart h v k k = slTo h v (k + 1) := by rw [slPart, slTo_succ]
theorem slPart_succ (h v : List Int) (k i : Nat) : slPart h v k (i + 1) = slPart h v k i ++ [(v.getD k 0 - v.getD i 0, h.getD k 0 - h.getD i 0)] := by rw [slPart, slRow_succ, ← List.append_assoc]; rfl
theorem slPart_length (h v : List Int) (k i : Nat) : (slPart h v k i).length = (slTo h v k).length + i := by rw [slPart, List.length_append, slRow_length]
noncomputable abbrev slopeS : PSpec := { sameS with pre := fun d => slOk d.1 d.2 = true ∧ 2 ≤ d.2.length, res := fun d => .agg (intR frL (medF (slFr d.1 d.2))) }
noncomputable abbrev E11 : Env := { P := Try.prog, fn := tbl [(25, .heap medS)], own := [], key := 1100, nt := 43 }
theorem b11 : PureBody E11 [] Try.f11 slopeS := by
  refine pb ?_
  rintro ⟨h, v⟩ ⟨p1, p2⟩
  simp only at p1 p2 ⊢
  have F := slOk_facts p1
  obtain ⟨f1, f2, f3, f4, f5, f6⟩ := F
  have hrows := slFr_rows (slOk_facts p1)
  have hsl := slTo_length h v
  have hpos := slTo_pos h v p2
  have hfl : (slFr h v).length = (slTo h v v.length).length := by simp [slFr]
  simp -dsimp [Try.f11, E11]
  repeat' (first | omega | (simp -dsimp [E11, ri, cellp, ints, f1]) | (refine Also.intro ?_ fun _ => ?_) | (refine Hold.intro fun _ => ?_) | (refine And.intro ?_ ?_))
  refine awp_loop_g [(5, 1138, 2, 35)] rfl (by simp) [11, 12, 6, 13, 14, 15, 16, 7, 17, 18, 19, 20, 21, 22, 23, 24, 25, 26, 27, 28, 29, 30, 31, 32, 33, 34, 35, 36, 37, 38, 5, 39, 40, 10] (fun k : Fin (v.length + 1) => [(10, (true, .int .i64 (k.1 : Nat))), (5, (true, .bsl 1138 0 (slTo h v k.1).length))])
    (fun k => hps [(1138, { base := 0, blks := [{ z := 2, els := (slTo h v k.1).map rowC, ty := 35 }] }), (1104, { base := 0, blks := [{ z := 2, els := [[.int .i64 0, .int .i64 0]], ty := 35 }] })] noH) (fun k => v.length - k.1) ⟨0, by omega⟩ ?_ ?_ ?_
  · simp [okAll, okv, slTo]
  · exact (by (try simp -dsimp only [hpush_noH, hpush_hps, hps_over]); refine hle_hps ?_; simp -dsimp [allK, slTo]; repeat' (first | (refine And.intro ?_ ?_) | (refine sLe.same ?_ ?_ <;> (simp; done)) | (refine sLe.clear ?_ ?_ <;> (first | (simp; done) | (simp; omega))) | (refine sLe.drop 1 ?_ ?_ ?_ <;> (simp; done))))
  rintro ⟨k, hk⟩
  simp only
  have hlk := hsl k
  have hkk8 : k * k ≤ 8 * 8 := Nat.mul_le_mul (by omega) (by omega)
  by_cases hk1 : k < v.length
  · have hki : (k : Int) < v.length := by omega
    have wk : IntKind.wrap .i64 ((k : Int) + 1) = (k + 1 : Nat) := wrap_id (by omega) (by omega)
    have hsk := slTo_succ h v k
    simp -dsimp [hki]
    repeat' (first | omega | (simp -dsimp [E11, ri, cellp, ints, hki]) | (refine Also.intro ?_ fun _ => ?_) | (refine Hold.intro fun _ => ?_) | (refine And.intro ?_ ?_))
    refine awp_loop [15, 16, 7, 17, 18, 19, 20, 21, 22, 23, 24, 25, 26, 27, 28, 29, 30, 31, 32, 33, 34, 35, 36, 37, 38, 5, 39, 14] (fun i : Fin (k + 1) => [(14, (true, .int .i64 (i.1 : Nat))), (5, (true, .bsl 1138 0 (slPart h v k i.1).length))])
      (fun i => hps [(1138, { base := 0, blks := [{ z := 2, els := (slPart h v k i.1).map rowC, ty := 35 }] }), (1104, { base := 0, blks := [{ z := 2, els := [[.int .i64 0, .int .i64 0]], ty := 35 }] })] noH) (fun i => k - i.1) ⟨0, by omega⟩ ?_ ?_ ?_
    · simp [okAll, okv, slPart_zero]
    · exact (by (try simp -dsimp only [hpush_noH, hpush_hps, hps_over]); refine hle_hps ?_; simp -dsimp [allK, slPart_zero]; repeat' (first | (refine And.intro ?_ ?_) | (refine sLe.same ?_ ?_ <;> (simp; done)) | (refine sLe.clear ?_ ?_ <;> (first | (simp; done) | (simp; omega))) | (refine sLe.drop 1 ?_ ?_ ?_ <;> (simp; done))))
    rintro ⟨i, hi⟩
    simp only
    by_cases hi1 : i < k
    · have hii : (i : Int) < k := by omega
      have wi : IntKind.wrap .i64 ((i : Int) + 1) = (i + 1 : Nat) := wrap_id (by omega) (by omega)
      have hri := slPart_succ h v k i
      have hlr := slPart_length h v k i
      have a1 := f4 k; have a2 := f4 i; have a3 := f5 k; have a4 := f5 i
      have hkh : k < h.length := by omega
      have hih : i < h.length := by omega
      have hiv : i < v.length := by omega
      rw [gi hk1, gi hiv, gi hkh, gi hih] at hri
      rw [gi hk1] at a1; rw [gi hiv] at a2; rw [gi hkh] at a3; rw [gi hih] at a4
      have wv : IntKind.wrap .i64 (v[k] - v[i]) = v[k] - v[i] := wrap_id (by omega) (by omega)
      have wh : IntKind.wrap .i64 (h[k] - h[i]) = h[k] - h[i] := wrap_id (by omega) (by omega)
      have hb16 : ((slPart h v k i).length + 1) * 16 ≤ 140737488355328 := by rw [hlr]; omega
      clear hsk hlk
      generalize slPart h v k i = L at *
      simp -dsimp [hii]
      repeat' (first | omega | (simp -dsimp [E11, ri, cellp, ints, hii, hk1, hkh, hih, hiv, wv, wh, hb16, wi]) | (refine Also.intro ?_ fun _ => ?_) | (refine Hold.intro fun _ => ?_) | (refine And.intro ?_ ?_))
      refine ⟨⟨i + 1, by omega⟩, tle_chain rfl ?_, (by (try simp -dsimp only [hpush_noH, hpush_hps, hps_over]); refine hle_hps ?_; simp -dsimp [allK, hri, rowC]; repeat' (first | (refine And.intro ?_ ?_) | (refine sLe.same ?_ ?_ <;> (simp; done)) | (refine sLe.clear ?_ ?_ <;> (first | (simp; done) | (simp; omega))) | (refine sLe.drop 1 ?_ ?_ ?_ <;> (simp; done)))), by simp only; omega⟩
      simp [okAll, okv, hri]
    have hik : i = k := by omega
    subst hik
    rw [slPart_full]
    simp -dsimp
    repeat' (first | omega | (simp -dsimp [E11, ri, cellp, ints, wk]) | (refine Also.intro ?_ fun _ => ?_) | (refine Hold.intro fun _ => ?_) | (refine And.intro ?_ ?_))
    refine ⟨⟨i + 1, by omega⟩, tle_kept (kept_upds rfl (kept_forget rfl (kept_upds rfl kept_base))) ?_, (by (try simp -dsimp only [hpush_noH, hpush_hps, hps_over]); refine hle_hps ?_; simp -dsimp [allK, ]; repeat' (first | (refine And.intro ?_ ?_) | (refine sLe.same ?_ ?_ <;> (simp; done)) | (refine sLe.clear ?_ ?_ <;> (first | (simp; done) | (simp; omega))) | (refine sLe.drop 1 ?_ ?_ ?_ <;> (simp; done)))), by simp only; omega⟩
    simp [okAll, okv]
  have hkn : k = v.length := by omega
  subst hkn
  have hmg := med_go (h := hps [(1138, { base := 0, blks := [{ z := 2, els := (slTo h v v.length).map rowC, ty := 35 }] }), (1104, { base := 0, blks := [{ z := 2, els := [[.int .i64 0, .int .i64 0]], ty := 35 }] })] noH) (s := 1138) (i := 0) (n := (slTo h v v.length).length) (d := slFr h v) (B := { z := 2, els := (slTo h v v.length).map rowC, ty := 35 }) (by simp [hget_hps, hps_cons]) rfl rfl rfl hfl.symm hpos (by omega) hrows
  generalize slTo h v v.length = L at *
  generalize slFr h v = d at *
  simp -dsimp
  repeat' (first | omega | (simp -dsimp [E11, ri, cellp, ints, hmg, resB, intR, frL]) | (refine Also.intro ?_ fun _ => ?_) | (refine Hold.intro fun _ => ?_) | (refine And.intro ?_ ?_))
theorem ok11 : FnOK Try.prog 11 (.pure slopeS) := pure_fn (E := E11) rfl (.cons ok25 .nil) (ok := []) (fn := Try.f11) (by kernel_rfl) (by kernel_rfl) (by kernel_rfl) (by kernel_rfl) rfl (fun _ _ => by simp) b11
end Go.Sx

