/- A part of a proof; no conditions. -/
import Derived.Test.YtjnfgejicdnjnaaSxHn
set_option linter.unusedSimpArgs false
set_option linter.unusedVariables false
set_option maxRecDepth 100000
set_option maxHeartbeats 1000000
namespace Go.Sx
open Go.Proofs

/-! teeth -/
def modN (k m : Nat) : Nat := k % m
def divN (k m : Nat) : Nat := k / m
theorem tmod_nat (k m : Nat) : (k : Int).tmod (m : Int) = (modN k m : Int) := rfl
theorem tdiv_nat (k m : Nat) : (k : Int).tdiv (m : Int) = (divN k m : Int) := rfl
def avgOk (l : List Int) (t : Int) : Bool := withinB l.length 1 24 && allB l (-1000000) 1000000 && withinB t 1 l.length && ((l.length : Int).tmod t == 0)
def stepP (l : List Int) (m : Nat) (o : List Int) (i : Nat) : List Int := o.set (modN i m) (o.getD (modN i m) 0 + l.getD i 0)
def patTo (l : List Int) (m k : Nat) : List Int := (List.range k).foldl (stepP l m) (List.replicate m 0)
theorem patTo_succ (l : List Int) (m k : Nat) : patTo l m (k + 1) = stepP l m (patTo l m k) k := by
  simp [patTo, List.range_succ, List.foldl_append]
theorem patTo_len (l : List Int) (m k : Nat) : (patTo l m k).length = m := by
  induction k with
  | zero => simp [patTo]
  | succ k ih => rw [patTo_succ, stepP, List.length_set, ih]
theorem getD_bound {l : List Int} {c : Int} (hc : 0 ≤ c) (h : ∀ x ∈ l, -c ≤ x ∧ x ≤ c) (i : Nat) : -c ≤ l.getD i 0 ∧ l.getD i 0 ≤ c := by
  rw [List.getD]
  cases e : l[i]? with
  | none => simp; omega
  | some x => simpa using h x (List.mem_of_getElem? e)
theorem patTo_bound {l : List Int} (h : ∀ x ∈ l, -1000000 ≤ x ∧ x ≤ 1000000) (m k : Nat) : ∀ x ∈ patTo l m k, -((k : Int) * 1000000) ≤ x ∧ x ≤ (k : Int) * 1000000 := by
  induction k with
  | zero => intro x hx; simp [patTo] at hx; omega
  | succ k ih =>
    intro x hx
    rw [patTo_succ, stepP] at hx
    rcases List.mem_or_eq_of_mem_set hx with hx | hx
    · have := ih x hx; omega
    · have h1 := getD_bound (c := (k : Int) * 1000000) (by omega) ih (modN k m)
      have h2 := getD_bound (c := 1000000) (by omega) h k
      omega
def teethN (l : List Int) (t : Int) : Nat := divN l.length t.toNat
def patZ (l : List Int) (t : Int) : List Int := patTo l (teethN l t) l.length
def resAt (l : List Int) (t : Int) (k : Nat) : Int := l.getD k 0 * t - (patZ l t).getD (modN k (teethN l t)) 0
def resTo (l : List Int) (t : Int) (k : Nat) : List Int := (List.range k).map (resAt l t)
theorem resTo_succ (l : List Int) (t : Int) (k : Nat) : resTo l t (k + 1) = resTo l t k ++ [resAt l t k] := by simp [resTo, List.range_succ]
theorem resTo_len (l : List Int) (t : Int) (k : Nat) : (resTo l t k).length = k := by simp [resTo]
def resZ (l : List Int) (t : Int) : List Int := resTo l t l.length
theorem avg_facts {l : List Int} {t : Int} (h : avgOk l t = true) : 1 ≤ l.length ∧ l.length ≤ 24 ∧ (∀ x ∈ l, -1000000 ≤ x ∧ x ≤ 1000000) ∧ ∃ n : Nat, t = n ∧ 1 ≤ n ∧ n ≤ l.length ∧ modN l.length n = 0 ∧ teethN l t = divN l.length n ∧ 0 < divN l.length n ∧ divN l.length n * n = l.length ∧ divN l.length n ≤ l.length := by
  simp only [avgOk, Bool.and_eq_true, withinB, decide_eq_true_eq, allB, List.all_eq_true, beq_iff_eq] at h
  obtain ⟨⟨⟨h1, h2⟩, h3⟩, h4⟩ := h
  refine ⟨by omega, by omega, h2, ?_⟩
  obtain ⟨n, rfl⟩ := Int.eq_ofNat_of_zero_le (show 0 ≤ t by omega)
  rw [tmod_nat] at h4
  have h5 : modN l.length n = 0 := by omega
  refine ⟨n, rfl, by omega, by omega, h5, by simp [teethN], ?_, ?_, Nat.div_le_self _ _⟩
  · exact Nat.div_pos (by omega) (by omega)
  · exact Nat.div_mul_cancel (Nat.dvd_of_mod_eq_zero h5)
abbrev gearDom : PSpec := { dom := List Int × Int, enc := fun d => [ints d.1, .int .i64 d.2], dec := fun l => ((l.getD 0 .top).toInts, (l.getD 1 .top).toInt), pre := fun d => d.1.length ≤ 9223372036854775807, res := fun _ => .top }
abbrev newGearS : PSpec := { gearDom with res := fun d => .tup [.agg [ints d.1, .int .i64 d.2], .bool (avgOk d.1 d.2)] }
noncomputable abbrev E75 : Env := { P := Try.prog, fn := tbl [(56, .pure withinS), (58, .pure allS)], own := [], key := 7500, nt := 29 }
theorem b75 : PureBody E75 [] Try.f75 newGearS := by
  refine pb ?_
  rintro ⟨l, t⟩ hl
  simp -dsimp [Try.f75, E75, ints]
  by_cases h1 : withinB l.length 1 24 = true
  case neg =>
    have h1' : withinB l.length 1 24 = false := by simpa using h1
    repeat' (first | omega | (simp -dsimp [E75, ri, cellp, ints, h1', hl, avgOk]) | (refine Also.intro ?_ fun _ => ?_) | (refine Hold.intro fun _ => ?_) | (refine And.intro ?_ ?_))
  by_cases h2 : allB l (-1000000) 1000000 = true
  case neg =>
    have h2' : allB l (-1000000) 1000000 = false := by simpa using h2
    repeat' (first | omega | (simp -dsimp [E75, ri, cellp, ints, h1, h2', hl, avgOk]) | (refine Also.intro ?_ fun _ => ?_) | (refine Hold.intro fun _ => ?_) | (refine And.intro ?_ ?_))
  by_cases h3 : withinB t 1 l.length = true
  case neg =>
    have h3' : withinB t 1 l.length = false := by simpa using h3
    repeat' (first | omega | (simp -dsimp [E75, ri, cellp, ints, h1, h2, h3', hl, avgOk]) | (refine Also.intro ?_ fun _ => ?_) | (refine Hold.intro fun _ => ?_) | (refine And.intro ?_ ?_))
  have h3b : 1 ≤ t ∧ t ≤ l.length := by simpa [withinB] using h3
  have h3c : ¬ t = 0 := by omega
  repeat' (first | omega | (simp -dsimp [E75, ri, cellp, ints, h1, h2, h3, h3c, hl, avgOk]) | (refine Also.intro ?_ fun _ => ?_) | (refine Hold.intro fun _ => ?_) | (refine And.intro ?_ ?_))
theorem ok75 : FnOK Try.prog 75 (.pure newGearS) := pure_fn (E := E75) rfl (.cons ok56 (.cons ok58 .nil)) (ok := []) (fn := Try.f75) (by kernel_rfl) (by kernel_rfl) (by kernel_rfl) (by kernel_rfl) rfl (fun _ _ => by simp) b75
abbrev gearS : PSpec := { dom := List Int × Int, enc := fun d => [.agg [ints d.1, .int .i64 d.2]], dec := fun l => (((l.getD 0 .top).cs.getD 0 .top).toInts, ((l.getD 0 .top).cs.getD 1 .top).toInt), pre := fun d => avgOk d.1 d.2 = true, res := fun d => ints (patZ d.1 d.2) }
abbrev resS : PSpec := { gearS with res := fun d => ints (resZ d.1 d.2) }
noncomputable abbrev E76 : Env := { P := Try.prog, fn := tbl [], own := [], key := 7600, nt := 33 }
theorem b76 : PureBody E76 [] Try.f76 gearS := by
  refine pb ?_
  rintro ⟨l, t⟩ hp
  obtain ⟨p1, p2, p3, n, rfl, p4, p5, p6, p7, p8, p9, p10⟩ := avg_facts hp
  simp only at p1 p2 p3 p5 p6 p7 p8 p9 p10
  have hnz : ¬ (n : Int) = 0 := by omega
  have hd := tdiv_nat l.length n
  have wd : IntKind.wrap .i64 (divN l.length n : Int) = divN l.length n := wrap_id (by omega) (by omega)
  have hpz : patZ l n = patTo l (divN l.length n) l.length := by rw [patZ, p7]
  generalize hm : divN l.length n = m at *
  have hb8 : (m : Int) * 8 ≤ 140737488355328 := by omega
  simp -dsimp [Try.f76, E76, ints, hd, wd, hnz, hb8]
  repeat' (first | omega | (simp -dsimp [E76, ri, cellp, ints, hd, wd, hnz, hb8]) | (refine Also.intro ?_ fun _ => ?_) | (refine Hold.intro fun _ => ?_) | (refine And.intro ?_ ?_))
  refine awp_loop [17, 18, 19, 20, 4, 5, 21, 22, 23, 24, 25, 26, 27, 28, 29, 30, 31, 16] (fun k : Fin (l.length + 1) => [(16, (true, .int .i64 (k.1 : Nat)))]) (fun k => hps [(7612, { base := 0, blks := [{ z := 1, els := (patTo l m k.1).map ri, ty := 3 }] }), (7601, { base := 1, blks := [] })] noH) (fun k => l.length - k.1) ⟨0, by omega⟩ ?_ (by (try simp -dsimp only [hpush_noH, hpush_hps, hps_over]); refine hle_hps ?_; simp -dsimp [allK, patTo, ri]; repeat' (first | (refine And.intro ?_ ?_) | (refine sLe.same ?_ ?_ <;> (simp; done)) | (refine sLe.clear ?_ ?_ <;> (simp; done)) | (refine sLe.drop 1 ?_ ?_ ?_ <;> (simp; done)))) ?_
  · simp [okAll, okv]
  rintro ⟨k, hk⟩
  simp only
  by_cases hk1 : k < l.length
  case neg =>
    have hke : k = l.length := by omega
    subst hke
    have hpl := patTo_len l m l.length
    simp -dsimp [hpz]
    repeat' (first | omega | (simp -dsimp [E76, ri, cellp, ints, hpz, hpl]) | (refine Also.intro ?_ fun _ => ?_) | (refine Hold.intro fun _ => ?_) | (refine And.intro ?_ ?_))
  have w1 : IntKind.wrap .i64 ((k : Int) + 1) = (k + 1 : Nat) := wrap_id (by omega) (by omega)
  have hpl := patTo_len l m k
  have hps := patTo_succ l m k
  have hpb := patTo_bound p3 m k
  have ht := tmod_nat k m
  have hmz : ¬ (m : Int) = 0 := by omega
  have hml : modN k m < m := Nat.mod_lt _ p8
  have egl : l.getD k 0 = l[k] := by simp [List.getD, List.getElem?_eq_getElem hk1]
  generalize patTo l m k = o at *
  have hmo : modN k m < o.length := by omega
  have ego : o.getD (modN k m) 0 = o[modN k m] := by simp [List.getD, List.getElem?_eq_getElem hmo]
  have b1 := hpb o[modN k m] (List.getElem_mem hmo)
  have b2 := p3 l[k] (List.getElem_mem hk1)
  have w2 : IntKind.wrap .i64 (o[modN k m] + l[k]) = o[modN k m] + l[k] := wrap_id (by omega) (by omega)
  have hset : (o.map ri).set (modN k m) [.int .i64 (o[modN k m] + l[k])] = (patTo l m (k + 1)).map ri := by
    rw [hps, stepP, ego, egl, List.map_set]; rfl
  simp -dsimp [hk1, ri]
  repeat' (first | omega | (simp -dsimp [E76, ri, cellp, ints, hk1, w1, ht, hmz, hml, hmo, hpl, w2, hset, -List.map_set]) | (refine Also.intro ?_ fun _ => ?_) | (refine Hold.intro fun _ => ?_) | (refine And.intro ?_ ?_))
  refine ⟨⟨k + 1, by omega⟩, tle_chain rfl ?_, (by (try simp -dsimp only [hpush_noH, hpush_hps, hps_over]); refine hle_hps ?_; simp -dsimp [allK, ]; repeat' (first | (refine And.intro ?_ ?_) | (refine sLe.same ?_ ?_ <;> (simp; done)) | (refine sLe.clear ?_ ?_ <;> (simp; done)) | (refine sLe.drop 1 ?_ ?_ ?_ <;> (simp; done)))), by simp only; omega⟩
  simp [okAll, okv]
theorem ok76 : FnOK Try.prog 76 (.pure gearS) := pure_fn (E := E76) rfl LOK.nil (ok := []) (fn := Try.f76) (by kernel_rfl) (by kernel_rfl) (by kernel_rfl) (by kernel_rfl) rfl (fun _ _ => by simp) b76
noncomputable abbrev E78 : Env := { P := Try.prog, fn := tbl [(76, .pure gearS)], own := [], key := 7800, nt := 33 }
theorem b78 : PureBody E78 [] Try.f78 resS := by
  refine pb ?_
  rintro ⟨l, t⟩ hp
  obtain ⟨p1, p2, p3, n, rfl, p4, p5, p6, p7, p8, p9, p10⟩ := avg_facts hp
  have hp' : avgOk l n = true := hp
  simp only at p1 p2 p3 p5 p6 p7 p8 p9 p10
  have hpl := patTo_len l (divN l.length n) l.length
  have hpb := patTo_bound p3 (divN l.length n) l.length
  have hpz : patTo l (divN l.length n) l.length = patZ l n := by rw [patZ, p7]
  rw [hpz] at hpl hpb
  have hra : ∀ k, resAt l n k = l.getD k 0 * n - (patZ l n).getD (modN k (divN l.length n)) 0 := fun k => by rw [resAt, p7]
  generalize hm : divN l.length n = m at *
  generalize hq : patZ l n = q at *
  simp -dsimp [Try.f78, E78, ints]
  repeat' (first | omega | (simp -dsimp [E78, ri, cellp, ints, hp', hq]) | (refine Also.intro ?_ fun _ => ?_) | (refine Hold.intro fun _ => ?_) | (refine And.intro ?_ ?_))
  refine awp_loop_g [(2, 7899, 1, 3)] rfl (by simp) [12, 13, 14, 15, 4, 5, 16, 17, 18, 19, 20, 21, 22, 23, 24, 25, 26, 27, 28, 29, 30, 2, 31, 11] (fun k : Fin (l.length + 1) => [(11, (true, .int .i64 (k.1 : Nat))), (2, (true, .bsl 7899 0 k.1))]) (fun k => hps [(7899, { base := 0, blks := [{ z := 1, els := (resTo l n k.1).map ri, ty := 3 }] }), (7801, { base := 0, blks := [{ z := 2, els := [[V.sl 1 (List.map ri l), V.int IntKind.i64 ↑n]], ty := 100 }] })] noH) (fun k => l.length - k.1) ⟨0, by omega⟩ ?_ (by (try simp -dsimp only [hpush_noH, hpush_hps, hps_over]); refine hle_hps ?_; simp -dsimp [allK, resTo, ri]; repeat' (first | (refine And.intro ?_ ?_) | (refine sLe.same ?_ ?_ <;> (simp; done)) | (refine sLe.clear ?_ ?_ <;> (simp; done)) | (refine sLe.drop 1 ?_ ?_ ?_ <;> (simp; done)))) ?_
  · simp [okAll, okv]
  rintro ⟨k, hk⟩
  simp only
  by_cases hk1 : k < l.length
  case neg =>
    have hke : k = l.length := by omega
    subst hke
    have hrl := resTo_len l n l.length
    simp -dsimp [resZ]
    repeat' (first | omega | (simp -dsimp [E78, ri, cellp, ints, resZ, hrl]) | (refine Also.intro ?_ fun _ => ?_) | (refine Hold.intro fun _ => ?_) | (refine And.intro ?_ ?_))
  have w1 : IntKind.wrap .i64 ((k : Int) + 1) = (k + 1 : Nat) := wrap_id (by omega) (by omega)
  have hrs := resTo_succ l n k
  have hrl := resTo_len l n k
  have ht := tmod_nat k m
  have hmz : ¬ (m : Int) = 0 := by omega
  have hml : modN k m < m := Nat.mod_lt _ p8
  have egl : l.getD k 0 = l[k] := by simp [List.getD, List.getElem?_eq_getElem hk1]
  have hmo : modN k m < q.length := by omega
  have ego : q.getD (modN k m) 0 = q[modN k m] := by simp [List.getD, List.getElem?_eq_getElem hmo]
  have b1 := hpb q[modN k m] (List.getElem_mem hmo)
  have b2 := p3 l[k] (List.getElem_mem hk1)
  have hra := hra k
  rw [egl, ego] at hra
  have b3 := mul_abs (a := l[k]) (b := (n : Int)) (m := 1000000) (n := 24) (by omega) (by omega) (by omega) (by omega)
  have w2 : IntKind.wrap .i64 (l[k] * (n : Int)) = l[k] * (n : Int) := wrap_id (by omega) (by omega)
  have w3 : IntKind.wrap .i64 (l[k] * (n : Int) - q[modN k m]) = l[k] * (n : Int) - q[modN k m] := wrap_id (by omega) (by omega)
  have hb8 : (k + 1) * 8 ≤ 140737488355328 := by omega
  simp -dsimp [hk1, ri]
  have hqn : ¬ q = [] := by intro e; rw [e] at hmo; simp at hmo
  repeat' (first | omega | (simp -dsimp [E78, ri, cellp, ints, hk1, w1, ht, hmz, hml, hmo, hpl, w2, w3, hrl, hb8, hqn]) | (refine Also.intro ?_ fun _ => ?_) | (refine Hold.intro fun _ => ?_) | (refine And.intro ?_ ?_))
  refine ⟨⟨k + 1, by omega⟩, tle_chain rfl ?_, (by (try simp -dsimp only [hpush_noH, hpush_hps, hps_over]); refine hle_hps ?_; simp -dsimp [allK, hrs, hra, ri]; repeat' (first | (refine And.intro ?_ ?_) | (refine sLe.same ?_ ?_ <;> (simp; done)) | (refine sLe.clear ?_ ?_ <;> (simp; done)) | (refine sLe.drop 1 ?_ ?_ ?_ <;> (simp; done)))), by simp only; omega⟩
  simp [okAll, okv]
theorem ok78 : FnOK Try.prog 78 (.pure resS) := pure_fn (E := E78) rfl (.cons ok76 .nil) (ok := []) (fn := Try.f78) (by kernel_rfl) (by kernel_rfl) (by kernel_rfl) (by kernel_rfl) rfl (fun _ _ => by simp) b78
def patR (l : List Int) (t : Int) : List Int × Int := if avgOk l t then (patZ l t, 0) else ([], 1)
def resR (l : List Int) (t : Int) : List Int × Int := if avgOk l t then (resZ l t, 0) else ([], 1)
abbrev PatternS : PSpec := { gearDom with res := fun d => .tup [ints (patR d.1 d.2).1, .int .i64 (patR d.1 d.2).2] }
abbrev ResidualS : PSpec := { gearDom with res := fun d => .tup [ints (resR d.1 d.2).1, .int .i64 (resR d.1 d.2).2] }
noncomputable abbrev E37 : Env := { P := Try.prog, fn := tbl [(75, .pure newGearS), (76, .pure gearS)], own := [], key := 3700, nt := 18 }
theorem b37 : PureBody E37 [] Try.f37 PatternS := by
  refine pb ?_
  rintro ⟨l, t⟩ hl
  simp only at hl
  by_cases hv : avgOk l t = true
  · simp -dsimp [Try.f37, E37, ints, hl, hv, patR]
    repeat' (first | omega | (simp -dsimp [E37, ri, cellp, ints, hl, hv, patR]) | (refine Also.intro ?_ fun _ => ?_) | (refine Hold.intro fun _ => ?_) | (refine And.intro ?_ ?_))
  · have hv' : avgOk l t = false := by simpa using hv
    simp -dsimp [Try.f37, E37, ints, hl, hv', patR]
    repeat' (first | omega | (simp -dsimp [E37, ri, cellp, ints, hl, hv', patR]) | (refine Also.intro ?_ fun _ => ?_) | (refine Hold.intro fun _ => ?_) | (refine And.intro ?_ ?_))
theorem ok37 : FnOK Try.prog 37 (.pure PatternS) := pure_fn (E := E37) rfl (.cons ok75 (.cons ok76 .nil)) (ok := []) (fn := Try.f37) (by kernel_rfl) (by kernel_rfl) (by kernel_rfl) (by kernel_rfl) rfl (fun _ _ => by simp) b37
noncomputable abbrev E39 : Env := { P := Try.prog, fn := tbl [(75, .pure newGearS), (78, .pure resS)], own := [], key := 3900, nt := 18 }
theorem b39 : PureBody E39 [] Try.f39 ResidualS := by
  refine pb ?_
  rintro ⟨l, t⟩ hl
  simp only at hl
  by_cases hv : avgOk l t = true
  · simp -dsimp [Try.f39, E39, ints, hl, hv, resR]
    repeat' (first | omega | (simp -dsimp [E39, ri, cellp, ints, hl, hv, resR]) | (refine Also.intro ?_ fun _ => ?_) | (refine Hold.intro fun _ => ?_) | (refine And.intro ?_ ?_))
  · have hv' : avgOk l t = false := by simpa using hv
    simp -dsimp [Try.f39, E39, ints, hl, hv', resR]
    repeat' (first | omega | (simp -dsimp [E39, ri, cellp, ints, hl, hv', resR]) | (refine Also.intro ?_ fun _ => ?_) | (refine Hold.intro fun _ => ?_) | (refine And.intro ?_ ?_))
theorem ok39 : FnOK Try.prog 39 (.pure ResidualS) := pure_fn (E := E39) rfl (.cons ok75 (.cons ok78 .nil)) (ok := []) (fn := Try.f39) (by kernel_rfl) (by kernel_rfl) (by kernel_rfl) (by kernel_rfl) rfl (fun _ _ => by simp) b39
abbrev avgS : PSpec := { gearDom with res := fun d => .bool (avgOk d.1 d.2) }
noncomputable abbrev E77 : Env := { P := Try.prog, fn := tbl [(57, .pure withinS)], own := [], key := 7700, nt := 35 }
theorem b77 : PureBody E77 [] Try.f77 avgS := by
  refine pb ?_
  rintro ⟨l, t⟩ hl
  simp only at hl
  by_cases h1 : withinB l.length 1 24 = true
  case neg =>
    have h1' : withinB l.length 1 24 = false := by simpa using h1
    simp -dsimp [Try.f77, E77, ints, h1']
    repeat' (first | omega | (simp -dsimp [E77, ri, cellp, ints, h1', hl, avgOk]) | (refine Also.intro ?_ fun _ => ?_) | (refine Hold.intro fun _ => ?_) | (refine And.intro ?_ ?_))
  by_cases h3 : withinB t 1 l.length = true
  case neg =>
    have h3' : withinB t 1 l.length = false := by simpa using h3
    simp -dsimp [Try.f77, E77, ints, h1, h3']
    repeat' (first | omega | (simp -dsimp [E77, ri, cellp, ints, h1, h3', hl, avgOk]) | (refine Also.intro ?_ fun _ => ?_) | (refine Hold.intro fun _ => ?_) | (refine And.intro ?_ ?_))
  have h3b : 1 ≤ t ∧ t ≤ l.length := by simpa [withinB] using h3
  have h3c : ¬ t = 0 := by omega
  by_cases h4 : (l.length : Int).tmod t = 0
  case neg =>
    have h4' : ((l.length : Int).tmod t == 0) = false := by simpa using h4
    have hf : avgOk l t = false := by simp [avgOk, h4']
    simp -dsimp [Try.f77, E77, ints, h1, h3, h3c, h4, hf]
    repeat' (first | omega | (simp -dsimp [E77, ri, cellp, ints, h1, h3, h3c, h4, hl, hf]) | (refine Also.intro ?_ fun _ => ?_) | (refine Hold.intro fun _ => ?_) | (refine And.intro ?_ ?_))
  have h4' : ((l.length : Int).tmod t == 0) = true := by simpa using h4
  simp -dsimp [Try.f77, E77, ints, h1, h3, h3c, h4]
  repeat' (first | omega | (simp -dsimp [E77, ri, cellp, ints, h1, h3, h3c, h4]) | (refine Also.intro ?_ fun _ => ?_) | (refine Hold.intro fun _ => ?_) | (refine And.intro ?_ ?_))
  refine awp_loop [24, 25, 26, 29, 30, 31, 32, 33, 34, 4, 27, 28, 6] (fun k : { k : Nat // k ≤ l.length ∧ ∀ j (h : j < l.length), j < k → withinB l[j] (-1000000) 1000000 = true } => [(6, (true, .int .i64 (k.1 : Nat)))]) (fun k => noH) (fun k => l.length - k.1) ⟨0, by omega, fun _ _ h => by omega⟩ ?_ (HLe.refl _) ?_
  · simp [okAll, okv]
  rintro ⟨k, hk, hall⟩
  simp only
  by_cases hk1 : k < l.length
  · have w1 : IntKind.wrap .i64 ((k : Int) + 1) = (k + 1 : Nat) := wrap_id (by omega) (by omega)
    by_cases hv : withinB l[k] (-1000000) 1000000 = true
    · simp -dsimp [hk1, ri, hv]
      repeat' (first | omega | (simp -dsimp [E77, ri, cellp, ints, hk1, hv, w1]) | (refine Also.intro ?_ fun _ => ?_) | (refine Hold.intro fun _ => ?_) | (refine And.intro ?_ ?_))
      refine ⟨k + 1, tle_chain rfl ?_, HLe.refl _, ⟨by omega, fun j h hj => ?_⟩, by omega⟩
      · simp [okAll, okv]
      · by_cases hjk : j = k
        · subst hjk; exact hv
        · exact hall j h (by omega)
    · have hv' : withinB l[k] (-1000000) 1000000 = false := by simpa using hv
      have q1' : allB l (-1000000) 1000000 = false := by
        simp only [allB, List.all_eq_false]
        exact ⟨l[k], List.getElem_mem hk1, by simp [hv']⟩
      have hf : avgOk l t = false := by simp [avgOk, q1']
      simp -dsimp [hk1, ri, hv', hf]
      repeat' (first | omega | (simp -dsimp [E77, ri, cellp, ints, hk1, hv', hf]) | (refine Also.intro ?_ fun _ => ?_) | (refine Hold.intro fun _ => ?_) | (refine And.intro ?_ ?_))
  have q1 : allB l (-1000000) 1000000 = true := by
    simp only [allB, List.all_eq_true]
    intro x hx
    obtain ⟨j, hj, rfl⟩ := List.getElem_of_mem hx
    exact hall j hj (by omega)
  have hok : avgOk l t = true := by simp [avgOk, h1, q1, h3, h4']
  simp -dsimp [hk1, hok]
  repeat' (first | omega | (simp -dsimp [E77, ri, cellp, ints, hk1, hok]) | (refine Also.intro ?_ fun _ => ?_) | (refine Hold.intro fun _ => ?_) | (refine And.intro ?_ ?_))
theorem ok77 : FnOK Try.prog 77 (.pure avgS) := pure_fn (E := E77) rfl (.cons ok57 .nil) (ok := []) (fn := Try.f77) (by kernel_rfl) (by kernel_rfl) (by kernel_rfl) (by kernel_rfl) rfl (fun _ _ => by simp) b77
noncomputable abbrev E38 : Env := { P := Try.prog, fn := tbl [(77, .pure avgS)], own := [], key := 3800, nt := 37 }
theorem b38 : PureBody E38 [] Try.f38 PatternS := by
  refine pb ?_
  rintro ⟨l, t⟩ hl
  simp only at hl
  by_cases hv : avgOk l t = true
  case neg =>
    have hv' : avgOk l t = false := by simpa using hv
    simp -dsimp [Try.f38, E38, ints, hl, hv', patR]
    repeat' (first | omega | (simp -dsimp [E38, ri, cellp, ints, hl, hv', patR]) | (refine Also.intro ?_ fun _ => ?_) | (refine Hold.intro fun _ => ?_) | (refine And.intro ?_ ?_))
  obtain ⟨p1, p2, p3, n, rfl, p4, p5, p6, p7, p8, p9, p10⟩ := avg_facts hv
  have hnz : ¬ (n : Int) = 0 := by omega
  have hd := tdiv_nat l.length n
  have wd : IntKind.wrap .i64 (divN l.length n : Int) = divN l.length n := wrap_id (by omega) (by omega)
  have hpz : patR l n = (patTo l (divN l.length n) l.length, 0) := by rw [patR, if_pos hv, patZ, p7]
  generalize hm : divN l.length n = m at *
  have hb8 : (m : Int) * 8 ≤ 140737488355328 := by omega
  simp -dsimp [Try.f38, E38, ints, hl, hv, hd, wd, hnz, hb8]
  repeat' (first | omega | (simp -dsimp [E38, ri, cellp, ints, hl, hv, hd, wd, hnz, hb8]) | (refine Also.intro ?_ fun _ => ?_) | (refine Hold.intro fun _ => ?_) | (refine And.intro ?_ ?_))
  refine awp_loop [17, 18, 19, 20, 23, 24, 25, 26, 27, 28, 29, 30, 31, 32, 33, 34, 35, 21, 22, 7] (fun k : Fin (l.length + 1) => [(7, (true, .int .i64 (k.1 : Nat)))]) (fun k => hps [(3816, { base := 0, blks := [{ z := 1, els := (patTo l m k.1).map ri, ty := 3 }] })] noH) (fun k => l.length - k.1) ⟨0, by omega⟩ ?_ (by (try simp -dsimp only [hpush_noH, hpush_hps, hps_over]); refine hle_hps ?_; simp -dsimp [allK, patTo, ri]; repeat' (first | (refine And.intro ?_ ?_) | (refine sLe.same ?_ ?_ <;> (simp; done)) | (refine sLe.clear ?_ ?_ <;> (simp; done)) | (refine sLe.drop 1 ?_ ?_ ?_ <;> (simp; done)))) ?_
  · simp [okAll, okv]
  rintro ⟨k, hk⟩
  simp only
  by_cases hk1 : k < l.length
  case neg =>
    have hke : k = l.length := by omega
    subst hke
    have hpl := patTo_len l m l.length
    simp -dsimp [hpz]
    repeat' (first | omega | (simp -dsimp [E38, ri, cellp, ints, hpz, hpl]) | (refine Also.intro ?_ fun _ => ?_) | (refine Hold.intro fun _ => ?_) | (refine And.intro ?_ ?_))
  have w1 : IntKind.wrap .i64 ((k : Int) + 1) = (k + 1 : Nat) := wrap_id (by omega) (by omega)
  have hpl := patTo_len l m k
  have hps := patTo_succ l m k
  have hpb := patTo_bound p3 m k
  have ht := tmod_nat k m
  have hmz : ¬ (m : Int) = 0 := by omega
  have hml : modN k m < m := Nat.mod_lt _ p8
  have egl : l.getD k 0 = l[k] := by simp [List.getD, List.getElem?_eq_getElem hk1]
  generalize patTo l m k = o at *
  have hmo : modN k m < o.length := by omega
  have ego : o.getD (modN k m) 0 = o[modN k m] := by simp [List.getD, List.getElem?_eq_getElem hmo]
  have b1 := hpb o[modN k m] (List.getElem_mem hmo)
  have b2 := p3 l[k] (List.getElem_mem hk1)
  have w2 : IntKind.wrap .i64 (o[modN k m] + l[k]) = o[modN k m] + l[k] := wrap_id (by omega) (by omega)
  have hset : (o.map ri).set (modN k m) [.int .i64 (o[modN k m] + l[k])] = (patTo l m (k + 1)).map ri := by
    rw [hps, stepP, ego, egl, List.map_set]; rfl
  simp -dsimp [hk1, ri]
  repeat' (first | omega | (simp -dsimp [E38, ri, cellp, ints, hk1, w1, ht, hmz, hml, hmo, hpl, w2, hset, -List.map_set]) | (refine Also.intro ?_ fun _ => ?_) | (refine Hold.intro fun _ => ?_) | (refine And.intro ?_ ?_))
  refine ⟨⟨k + 1, by omega⟩, tle_chain rfl ?_, (by (try simp -dsimp only [hpush_noH, hpush_hps, hps_over]); refine hle_hps ?_; simp -dsimp [allK, ]; repeat' (first | (refine And.intro ?_ ?_) | (refine sLe.same ?_ ?_ <;> (simp; done)) | (refine sLe.clear ?_ ?_ <;> (simp; done)) | (refine sLe.drop 1 ?_ ?_ ?_ <;> (simp; done)))), by simp only; omega⟩
  simp [okAll, okv]
theorem ok38 : FnOK Try.prog 38 (.pure PatternS) := pure_fn (E := E38) rfl (.cons ok77 .nil) (ok := []) (fn := Try.f38) (by kernel_rfl) (by kernel_rfl) (by kernel_rfl) (by kernel_rfl) rfl (fun _ _ => by simp) b38
noncomputable abbrev E40 : Env := { P := Try.prog, fn := tbl [(38, .pure PatternS)], own := [], key := 4000, nt := 43 }
theorem b40 : PureBody E40 [] Try.f40 ResidualS := by
  refine pb ?_
  rintro ⟨l, t⟩ hl
  simp only at hl
  by_cases hv : avgOk l t = true
  case neg =>
    have hv' : avgOk l t = false := by simpa using hv
    simp -dsimp [Try.f40, E40, ints, hl, hv', patR, resR]
    repeat' (first | omega | (simp -dsimp [E40, ri, cellp, ints, hl, hv', patR, resR]) | (refine Also.intro ?_ fun _ => ?_) | (refine Hold.intro fun _ => ?_) | (refine And.intro ?_ ?_))
  obtain ⟨p1, p2, p3, n, rfl, p4, p5, p6, p7, p8, p9, p10⟩ := avg_facts hv
  have hpl := patTo_len l (divN l.length n) l.length
  have hpb := patTo_bound p3 (divN l.length n) l.length
  have hpz : patTo l (divN l.length n) l.length = patZ l n := by rw [patZ, p7]
  rw [hpz] at hpl hpb
  have hra : ∀ k, resAt l n k = l.getD k 0 * n - (patZ l n).getD (modN k (divN l.length n)) 0 := fun k => by rw [resAt, p7]
  have hpr : patR l n = (patZ l n, 0) := by rw [patR, if_pos hv]
  have hrr : resR l n = (resZ l n, 0) := by rw [resR, if_pos hv]
  generalize hm : divN l.length n = m at *
  generalize hq : patZ l n = q at *
  simp -dsimp [Try.f40, E40, ints, hl, hpr]
  repeat' (first | omega | (simp -dsimp [E40, ri, cellp, ints, hl, hpr]) | (refine Also.intro ?_ fun _ => ?_) | (refine Hold.intro fun _ => ?_) | (refine And.intro ?_ ?_))
  refine awp_loop_g [(8, 4099, 1, 3)] rfl (by simp) [19, 20, 21, 22, 25, 26, 27, 28, 29, 30, 31, 32, 33, 34, 35, 36, 37, 38, 39, 40, 41, 8, 23, 24, 9] (fun k : Fin (l.length + 1) => [(9, (true, .int .i64 (k.1 : Nat))), (8, (true, .bsl 4099 0 k.1))]) (fun k => hps [(4099, { base := 0, blks := [{ z := 1, els := (resTo l n k.1).map ri, ty := 3 }] })] noH) (fun k => l.length - k.1) ⟨0, by omega⟩ ?_ (by (try simp -dsimp only [hpush_noH, hpush_hps, hps_over]); refine hle_hps ?_; simp -dsimp [allK, resTo, ri]; repeat' (first | (refine And.intro ?_ ?_) | (refine sLe.same ?_ ?_ <;> (simp; done)) | (refine sLe.clear ?_ ?_ <;> (simp; done)) | (refine sLe.drop 1 ?_ ?_ ?_ <;> (simp; done)))) ?_
  · simp [okAll, okv]
  rintro ⟨k, hk⟩
  simp only
  by_cases hk1 : k < l.length
  case neg =>
    have hke : k = l.length := by omega
    subst hke
    have hrl := resTo_len l n l.length
    simp -dsimp [resZ, hrr]
    repeat' (first | omega | (simp -dsimp [E40, ri, cellp, ints, resZ, hrr, hrl]) | (refine Also.intro ?_ fun _ => ?_) | (refine Hold.intro fun _ => ?_) | (refine And.intro ?_ ?_))
  have w1 : IntKind.wrap .i64 ((k : Int) + 1) = (k + 1 : Nat) := wrap_id (by omega) (by omega)
  have hrs := resTo_succ l n k
  have hrl := resTo_len l n k
  have ht := tmod_nat k m
  have hmz : ¬ (m : Int) = 0 := by omega
  have hml : modN k m < m := Nat.mod_lt _ p8
  have egl : l.getD k 0 = l[k] := by simp [List.getD, List.getElem?_eq_getElem hk1]
  have hmo : modN k m < q.length := by omega
  have ego : q.getD (modN k m) 0 = q[modN k m] := by simp [List.getD, List.getElem?_eq_getElem hmo]
  have b1 := hpb q[modN k m] (List.getElem_mem hmo)
  have b2 := p3 l[k] (List.getElem_mem hk1)
  have hra := hra k
  rw [egl, ego] at hra
  have b3 := mul_abs (a := l[k]) (b := (n : Int)) (m := 1000000) (n := 24) (by omega) (by omega) (by omega) (by omega)
  have w2 : IntKind.wrap .i64 (l[k] * (n : Int)) = l[k] * (n : Int) := wrap_id (by omega) (by omega)
  have w3 : IntKind.wrap .i64 (l[k] * (n : Int) - q[modN k m]) = l[k] * (n : Int) - q[modN k m] := wrap_id (by omega) (by omega)
  have hb8 : (k + 1) * 8 ≤ 140737488355328 := by omega
  have hqn : ¬ q = [] := by intro e; rw [e] at hmo; simp at hmo
  simp -dsimp [hk1, ri]
  repeat' (first | omega | (simp -dsimp [E40, ri, cellp, ints, hk1, w1, ht, hmz, hml, hmo, hpl, w2, w3, hrl, hb8, hqn]) | (refine Also.intro ?_ fun _ => ?_) | (refine Hold.intro fun _ => ?_) | (refine And.intro ?_ ?_))
  refine ⟨⟨k + 1, by omega⟩, tle_chain rfl ?_, (by (try simp -dsimp only [hpush_noH, hpush_hps, hps_over]); refine hle_hps ?_; simp -dsimp [allK, hrs, hra, ri]; repeat' (first | (refine And.intro ?_ ?_) | (refine sLe.same ?_ ?_ <;> (simp; done)) | (refine sLe.clear ?_ ?_ <;> (simp; done)) | (refine sLe.drop 1 ?_ ?_ ?_ <;> (simp; done)))), by simp only; omega⟩
  simp [okAll, okv]
theorem ok40 : FnOK Try.prog 40 (.pure ResidualS) := pure_fn (E := E40) rfl (.cons ok38 .nil) (ok := []) (fn := Try.f40) (by kernel_rfl) (by kernel_rfl) (by kernel_rfl) (by kernel_rfl) rfl (fun _ _ => by simp) b40
/-! Measure -/
def absZ (n : Int) : Int := if -n > n then -n else n
theorem absZ_facts {n c : Int} (h1 : -c ≤ n) (h2 : n ≤ c) : 0 ≤ absZ n ∧ absZ n ≤ c ∧ absZ n * absZ n = n * n := by
  unfold absZ
  split
  · exact ⟨by omega, by omega, Int.neg_mul_neg n n⟩
  · exact ⟨by omega, by omega, rfl⟩
def stepM (s : Int × Int × Int) (n : Int) : Int × Int × Int := (s.1 + n * n, (if absZ n > s.2.1 then absZ n else s.2.1), s.2.2 + absZ n)
def measTo (r : List Int) (k : Nat) : Int × Int × Int := (r.take k).foldl stepM (0, 0, 0)
theorem measTo_succ (r : List Int) {k : Nat} (h : k < r.length) : measTo r (k + 1) = stepM (measTo r k) r[k] := by
  rw [measTo, List.take_succ_eq_append_getElem h, List.foldl_append]; rfl
theorem measTo_bound {r : List Int} (h : ∀ x ∈ r, -48000000 ≤ x ∧ x ≤ 48000000) : ∀ k, k ≤ r.length → 0 ≤ (measTo r k).1 ∧ (measTo r k).1 ≤ (k : Int) * 2304000000000000 ∧ 0 ≤ (measTo r k).2.1 ∧ (measTo r k).2.1 ≤ 48000000 ∧ 0 ≤ (measTo r k).2.2 ∧ (measTo r k).2.2 ≤ (k : Int) * 48000000 := by
  intro k
  induction k with
  | zero => intro _; simp [measTo]
  | succ k ih =>
    intro hk
    have ih := ih (by omega)
    have hx := h r[k] (List.getElem_mem hk)
    obtain ⟨a1, a2, a3⟩ := absZ_facts hx.1 hx.2
    have m1 := mul_abs (a := absZ r[k]) (b := absZ r[k]) (m := 48000000) (n := 48000000) (by omega) a2 (by omega) a2
    have m2 : 0 ≤ absZ r[k] * absZ r[k] := Int.mul_nonneg a1 a1
    rw [measTo_succ r hk, stepM]
    simp only
    rw [← a3]
    refine ⟨by omega, by omega, ?_, ?_, by omega, by omega⟩ <;> split <;> omega
theorem resAt_bound {l : List Int} {t : Int} (h : avgOk l t = true) (k : Nat) : -48000000 ≤ resAt l t k ∧ resAt l t k ≤ 48000000 := by
  obtain ⟨p1, p2, p3, n, rfl, p4, p5, p6, p7, p8, p9, p10⟩ := avg_facts h
  have hb := patTo_bound p3 (teethN l n) l.length
  have h1 := getD_bound (c := (l.length : Int) * 1000000) (by omega) hb (modN k (teethN l n))
  have h2 := getD_bound (c := 1000000) (by omega) p3 k
  have m1 := mul_abs (a := l.getD k 0) (b := (n : Int)) (m := 1000000) (n := 24) (by omega) (by omega) (by omega) (by omega)
  unfold resAt patZ
  omega
theorem resZ_bound {l : List Int} {t : Int} (h : avgOk l t = true) : ∀ x ∈ resZ l t, -48000000 ≤ x ∧ x ≤ 48000000 := by
  intro x hx
  obtain ⟨k, _, rfl⟩ := List.mem_map.1 hx
  exact resAt_bound h k
def measR (l : List Int) (den t : Int) : LvD × Int :=
  if avgOk l t && withinB den 1 1000000 then (⟨(measTo (resZ l t) l.length).1, (measTo (resZ l t) l.length).2.1, (measTo (resZ l t) l.length).2.2, den * t⟩, 0) else (⟨0, 0, 0, 0⟩, 1)
abbrev MeasureS : PSpec := { dom := List Int × Int × Int, enc := fun d => [ints d.1, .int .i64 d.2.1, .int .i64 d.2.2], dec := fun l => ((l.getD 0 .top).toInts, (l.getD 1 .top).toInt, (l.getD 2 .top).toInt), pre := fun d => d.1.length ≤ 9223372036854775807, res := fun d => .tup [lvV (measR d.1 d.2.1 d.2.2).1, .int .i64 (measR d.1 d.2.1 d.2.2).2] }
noncomputable abbrev E41 : Env := { P := Try.prog, fn := tbl [(75, .pure newGearS), (56, .pure withinS), (78, .pure resS)], own := [], key := 4100, nt := 61 }
theorem b41 : PureBody E41 [] Try.f41 MeasureS := by
  refine pb ?_
  rintro ⟨l, den, t⟩ hl
  simp only at hl
  by_cases hv : avgOk l t = true
  case neg =>
    have hv' : avgOk l t = false := by simpa using hv
    simp -dsimp [Try.f41, E41, ints, hl, hv', measR, lvV]
    repeat' (first | omega | (simp -dsimp [E41, ri, cellp, ints, hl, hv', measR, lvV]) | (refine Also.intro ?_ fun _ => ?_) | (refine Hold.intro fun _ => ?_) | (refine And.intro ?_ ?_))
  by_cases hd : withinB den 1 1000000 = true
  case neg =>
    have hd' : withinB den 1 1000000 = false := by simpa using hd
    simp -dsimp [Try.f41, E41, ints, hl, hv, hd', measR, lvV]
    repeat' (first | omega | (simp -dsimp [E41, ri, cellp, ints, hl, hv, hd', measR, lvV]) | (refine Also.intro ?_ fun _ => ?_) | (refine Hold.intro fun _ => ?_) | (refine And.intro ?_ ?_))
  have hd2 : 1 ≤ den ∧ den ≤ 1000000 := by simpa [withinB] using hd
  have hrb := resZ_bound hv
  have hrl : (resZ l t).length = l.length := resTo_len l t l.length
  obtain ⟨p1, p2, p3, n, rfl, p4, p5, p6, p7, p8, p9, p10⟩ := avg_facts hv
  have m0 := mul_abs (a := den) (b := (n : Int)) (m := 1000000) (n := 24) (by omega) (by omega) (by omega) (by omega)
  have wd : IntKind.wrap .i64 (den * (n : Int)) = den * (n : Int) := wrap_id (by omega) (by omega)
  have hmr : measR l den n = (⟨(measTo (resZ l n) l.length).1, (measTo (resZ l n) l.length).2.1, (measTo (resZ l n) l.length).2.2, den * n⟩, 0) := by simp [measR, hv, hd]
  generalize hr : resZ l n = r at *
  simp -dsimp [Try.f41, E41, ints, hl, hv, hd, wd]
  repeat' (first | omega | (simp -dsimp [E41, ri, cellp, ints, hl, hv, hd, wd, hr]) | (refine Also.intro ?_ fun _ => ?_) | (refine Hold.intro fun _ => ?_) | (refine And.intro ?_ ?_))
  refine awp_loop [35, 36, 37, 11, 38, 39, 40, 41, 12, 42, 43, 44, 45, 46, 47, 48, 49, 50, 51, 52, 53, 54, 55, 56, 57, 58, 59, 34] (fun k : Fin (l.length + 1) => [(34, (true, .int .i64 (k.1 : Nat)))]) (fun k => hps [(4106, { base := 0, blks := [{ z := 4, els := [[.int .i64 (measTo r k.1).1, .int .i64 (measTo r k.1).2.1, .int .i64 (measTo r k.1).2.2, .int .i64 (den * n)]], ty := 31 }] }), (4108, { base := 1, blks := [] })] noH) (fun k => l.length - k.1) ⟨0, by omega⟩ ?_ (by (try simp -dsimp only [hpush_noH, hpush_hps, hps_over]); refine hle_hps ?_; simp -dsimp [allK, measTo]; repeat' (first | (refine And.intro ?_ ?_) | (refine sLe.same ?_ ?_ <;> (simp; done)) | (refine sLe.clear ?_ ?_ <;> (simp; done)) | (refine sLe.drop 1 ?_ ?_ ?_ <;> (simp; done)))) ?_
  · simp [okAll, okv]
  rintro ⟨k, hk⟩
  simp only
  by_cases hk1 : k < l.length
  case neg =>
    have hke : k = l.length := by omega
    subst hke
    simp -dsimp [hmr, hrl, lvV]
    repeat' (first | omega | (simp -dsimp [E41, ri, cellp, ints, hmr, hrl, lvV]) | (refine Also.intro ?_ fun _ => ?_) | (refine Hold.intro fun _ => ?_) | (refine And.intro ?_ ?_))
  have hk2 : k < r.length := by omega
  have w1 : IntKind.wrap .i64 ((k : Int) + 1) = (k + 1 : Nat) := wrap_id (by omega) (by omega)
  have hms := measTo_succ r hk2
  have hmb := measTo_bound hrb k (by omega)
  have hx := hrb r[k] (List.getElem_mem hk2)
  generalize hxe : r[k] = x at *
  obtain ⟨a1, a2, a3⟩ := absZ_facts hx.1 hx.2
  have mx := mul_abs (a := x) (b := x) (m := 48000000) (n := 48000000) hx.1 hx.2 hx.1 hx.2
  have hkl : ((k : Int) < r.length) := by omega
  generalize measTo r k = s at *
  obtain ⟨s1, s2, s3⟩ := s
  simp only [stepM] at hms hmb
  have wn : IntKind.wrap .i64 (-x) = -x := wrap_id (by omega) (by omega)
  have wxx : IntKind.wrap .i64 (x * x) = x * x := wrap_id (by omega) (by omega)
  have ha : (if x < -x then -x else x) = absZ x := rfl
  have we : IntKind.wrap .i64 (s1 + x * x) = s1 + x * x := wrap_id (by omega) (by omega)
  have ws : IntKind.wrap .i64 (s3 + absZ x) = s3 + absZ x := wrap_id (by omega) (by omega)
  simp -dsimp [hk1, hk2, hrl, hxe, ri]
  repeat' (first | omega | (simp -dsimp [E41, ri, cellp, ints, hk1, hk2, hrl, hxe, w1, wn, wxx, ha, we, ws]) | (refine Also.intro ?_ fun _ => ?_) | (refine Hold.intro fun _ => ?_) | (refine And.intro ?_ ?_))
  refine ⟨⟨k + 1, by omega⟩, tle_chain rfl ?_, (by (try simp -dsimp only [hpush_noH, hpush_hps, hps_over]); refine hle_hps ?_; simp -dsimp [allK, hms]; repeat' (first | (refine And.intro ?_ ?_) | (refine sLe.same ?_ ?_ <;> (simp; done)) | (refine sLe.clear ?_ ?_ <;> (simp; done)) | (refine sLe.drop 1 ?_ ?_ ?_ <;> (simp; done)))), by simp only; omega⟩
  simp [okAll, okv]
theorem ok41 : FnOK Try.prog 41 (.pure MeasureS) := pure_fn (E := E41) rfl (.cons ok75 (.cons ok56 (.cons ok78 .nil))) (ok := []) (fn := Try.f41) (by kernel_rfl) (by kernel_rfl) (by kernel_rfl) (by kernel_rfl) rfl (fun _ _ => by simp) b41
noncomputable abbrev E42 : Env := { P := Try.prog, fn := tbl [(40, .pure ResidualS), (57, .pure withinS)], own := [], key := 4200, nt := 65 }
theorem b42 : PureBody E42 [] Try.f42 MeasureS := by
  refine pb ?_
  rintro ⟨l, den, t⟩ hl
  simp only at hl
  by_cases hv : avgOk l t = true
  case neg =>
    have hv' : avgOk l t = false := by simpa using hv
    simp -dsimp [Try.f42, E42, ints, hl, hv', measR, resR, lvV]
    repeat' (first | omega | (simp -dsimp [E42, ri, cellp, ints, hl, hv', measR, resR, lvV]) | (refine Also.intro ?_ fun _ => ?_) | (refine Hold.intro fun _ => ?_) | (refine And.intro ?_ ?_))
  have hrr : resR l t = (resZ l t, 0) := by rw [resR, if_pos hv]
  by_cases hd : withinB den 1 1000000 = true
  case neg =>
    have hd' : withinB den 1 1000000 = false := by simpa using hd
    simp -dsimp [Try.f42, E42, ints, hl, hv, hrr, hd', measR, lvV]
    repeat' (first | omega | (simp -dsimp [E42, ri, cellp, ints, hl, hv, hrr, hd', measR, lvV]) | (refine Also.intro ?_ fun _ => ?_) | (refine Hold.intro fun _ => ?_) | (refine And.intro ?_ ?_))
  have hd2 : 1 ≤ den ∧ den ≤ 1000000 := by simpa [withinB] using hd
  have hrb := resZ_bound hv
  have hrl : (resZ l t).length = l.length := resTo_len l t l.length
  obtain ⟨p1, p2, p3, n, rfl, p4, p5, p6, p7, p8, p9, p10⟩ := avg_facts hv
  have m0 := mul_abs (a := den) (b := (n : Int)) (m := 1000000) (n := 24) (by omega) (by omega) (by omega) (by omega)
  have wd : IntKind.wrap .i64 (den * (n : Int)) = den * (n : Int) := wrap_id (by omega) (by omega)
  have hmr : measR l den n = (⟨(measTo (resZ l n) l.length).1, (measTo (resZ l n) l.length).2.1, (measTo (resZ l n) l.length).2.2, den * n⟩, 0) := by simp [measR, hv, hd]
  generalize hr : resZ l n = r at *
  simp -dsimp [Try.f42, E42, ints, hl, hrr, hd, wd]
  repeat' (first | omega | (simp -dsimp [E42, ri, cellp, ints, hl, hrr, hd, wd, hr]) | (refine Also.intro ?_ fun _ => ?_) | (refine Hold.intro fun _ => ?_) | (refine And.intro ?_ ?_))
  refine awp_loop [31, 32, 33, 34, 37, 38, 39, 40, 41, 42, 43, 44, 45, 46, 12, 47, 48, 49, 50, 51, 52, 53, 54, 55, 56, 57, 58, 59, 60, 61, 62, 63, 35, 36, 11] (fun k : Fin (l.length + 1) => [(11, (true, .int .i64 (k.1 : Nat)))]) (fun k => hps [(4210, { base := 0, blks := [{ z := 4, els := [[.int .i64 (measTo r k.1).1, .int .i64 (measTo r k.1).2.1, .int .i64 (measTo r k.1).2.2, .int .i64 (den * n)]], ty := 31 }] }), (4206, { base := 0, blks := [{ z := 4, els := [[.int .i64 0, .int .i64 0, .int .i64 0, .int .i64 0]], ty := 31 }] })] noH) (fun k => l.length - k.1) ⟨0, by omega⟩ ?_ (by (try simp -dsimp only [hpush_noH, hpush_hps, hps_over]); refine hle_hps ?_; simp -dsimp [allK, measTo]; repeat' (first | (refine And.intro ?_ ?_) | (refine sLe.same ?_ ?_ <;> (simp; done)) | (refine sLe.clear ?_ ?_ <;> (simp; done)) | (refine sLe.drop 1 ?_ ?_ ?_ <;> (simp; done)))) ?_
  · simp [okAll, okv]
  rintro ⟨k, hk⟩
  simp only
  by_cases hk1 : k < l.length
  case neg =>
    have hke : k = l.length := by omega
    subst hke
    simp -dsimp [hmr, hrl, lvV]
    repeat' (first | omega | (simp -dsimp [E42, ri, cellp, ints, hmr, hrl, lvV]) | (refine Also.intro ?_ fun _ => ?_) | (refine Hold.intro fun _ => ?_) | (refine And.intro ?_ ?_))
  have hk2 : k < r.length := by omega
  have w1 : IntKind.wrap .i64 ((k : Int) + 1) = (k + 1 : Nat) := wrap_id (by omega) (by omega)
  have hms := measTo_succ r hk2
  have hmb := measTo_bound hrb k (by omega)
  have hx := hrb r[k] (List.getElem_mem hk2)
  generalize hxe : r[k] = x at *
  obtain ⟨a1, a2, a3⟩ := absZ_facts hx.1 hx.2
  have mx := mul_abs (a := x) (b := x) (m := 48000000) (n := 48000000) hx.1 hx.2 hx.1 hx.2
  have hkl : ((k : Int) < r.length) := by omega
  generalize measTo r k = s at *
  obtain ⟨s1, s2, s3⟩ := s
  simp only [stepM] at hms hmb
  have wn : IntKind.wrap .i64 (-x) = -x := wrap_id (by omega) (by omega)
  have wxx : IntKind.wrap .i64 (x * x) = x * x := wrap_id (by omega) (by omega)
  have ha : (if x < -x then -x else x) = absZ x := rfl
  have we : IntKind.wrap .i64 (s1 + x * x) = s1 + x * x := wrap_id (by omega) (by omega)
  have ws : IntKind.wrap .i64 (s3 + absZ x) = s3 + absZ x := wrap_id (by omega) (by omega)
  simp -dsimp [hk1, hk2, hrl, hxe, ri]
  repeat' (first | omega | (simp -dsimp [E42, ri, cellp, ints, hk1, hk2, hrl, hxe, w1, wn, ha, a3, wxx, we, ws]) | (refine Also.intro ?_ fun _ => ?_) | (refine Hold.intro fun _ => ?_) | (refine And.intro ?_ ?_))
  refine ⟨⟨k + 1, by omega⟩, tle_chain rfl ?_, (by (try simp -dsimp only [hpush_noH, hpush_hps, hps_over]); refine hle_hps ?_; simp -dsimp [allK, hms]; repeat' (first | (refine And.intro ?_ ?_) | (refine sLe.same ?_ ?_ <;> (simp; done)) | (refine sLe.clear ?_ ?_ <;> (simp; done)) | (refine sLe.drop 1 ?_ ?_ ?_ <;> (simp; done)))), by simp only; omega⟩
  simp [okAll, okv]
theorem ok42 : FnOK Try.prog 42 (.pure MeasureS) := pure_fn (E := E42) rfl (.cons ok40 (.cons ok57 .nil)) (ok := []) (fn := Try.f42) (by kernel_rfl) (by kernel_rfl) (by kernel_rfl) (by kernel_rfl) rfl (fun _ _ => by simp) b42
theorem patR_len (l : List Int) (t : Int) : (patR l t).1.length ≤ 9223372036854775807 := by
  unfold patR
  split
  · rename_i h
    obtain ⟨p1, p2, p3, n, rfl, p4, p5, p6, p7, p8, p9, p10⟩ := avg_facts h
    have := patTo_len l (teethN l n) l.length
    simp only [patZ]; omega
  · simp
theorem resR_len (l : List Int) (t : Int) : (resR l t).1.length ≤ 9223372036854775807 := by
  unfold resR
  split
  · rename_i h
    obtain ⟨p1, p2, p3, n, rfl, p4, p5, p6, p7, p8, p9, p10⟩ := avg_facts h
    have := resTo_len l n l.length
    simp only [resZ]; omega
  · simp
abbrev trueTeethS : PSpec := { MeasureS with res := fun _ => .bool true }
noncomputable abbrev E12 : Env := { P := Try.prog, fn := tbl [(37, .pure PatternS), (38, .pure PatternS), (29, .pure sameS), (39, .pure ResidualS), (40, .pure ResidualS), (41, .pure MeasureS), (42, .pure MeasureS), (18, .pure worksS)], own := [], key := 1200, nt := 80 }
theorem b12 : PureBody E12 [] Try.f12 trueTeethS := by
  refine pb ?_
  rintro ⟨l, den, t⟩ hl
  simp only at hl
  have h1 := patR_len l t
  have h2 := resR_len l t
  simp -dsimp [Try.f12, E12, ints, hl]
  repeat' (first | omega | (simp -dsimp [E12, ri, cellp, ints, hl, h1, h2, lvV]) | (refine Also.intro ?_ fun _ => ?_) | (refine Hold.intro fun _ => ?_) | (refine And.intro ?_ ?_))
theorem ok12 : FnOK Try.prog 12 (.pure trueTeethS) := pure_fn (E := E12) rfl (.cons ok37 (.cons ok38 (.cons ok29 (.cons ok39 (.cons ok40 (.cons ok41 (.cons ok42 (.cons ok18 .nil)))))))) (ok := []) (fn := Try.f12) (by kernel_rfl) (by kernel_rfl) (by kernel_rfl) (by kernel_rfl) rfl (fun _ _ => by simp) b12
end Go.Sx

