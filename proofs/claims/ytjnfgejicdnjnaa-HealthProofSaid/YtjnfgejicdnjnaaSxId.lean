/- HealthExplains: the reference's Certain; the law. No conditions. -/
import Derived.Test.YtjnfgejicdnjnaaSxIc
set_option linter.unusedSimpArgs false
set_option linter.unusedVariables false
set_option maxRecDepth 100000
set_option maxHeartbeats 1000000
namespace Go.Sx
open Go.Proofs

def bump (l : List Int) (v : Int) : List Int := l.set v.toNat (l.getD v.toNat 0 + 1)
def bumpTo (l xs : List Int) (i : Nat) : List Int := (xs.take i).foldl bump l
theorem bumpTo_succ (l xs : List Int) {i : Nat} (h : i < xs.length) : bumpTo l xs (i + 1) = bump (bumpTo l xs i) xs[i] := by
  rw [bumpTo, List.take_succ_eq_append_getElem h, List.foldl_append]; rfl
theorem foldl_bump_len (xs : List Int) : ∀ l : List Int, (xs.foldl bump l).length = l.length := by
  induction xs with
  | nil => intro l; rfl
  | cons x xs ih => intro l; rw [List.foldl_cons, ih]; simp [bump]
theorem bumpTo_len (l xs : List Int) (i : Nat) : (bumpTo l xs i).length = l.length := foldl_bump_len _ _
theorem bump_get (l : List Int) (v : Int) {s : Nat} (hs : s < l.length) : (bump l v).getD s 0 = l.getD s 0 + if v.toNat = s then 1 else 0 := by
  unfold bump
  simp only [List.getD, List.getElem?_set]
  by_cases h : v.toNat = s
  · subst h; simp [hs]
  · simp [h]
theorem foldl_bump_bound (xs : List Int) : ∀ (l : List Int) {s : Nat}, s < l.length → l.getD s 0 ≤ (xs.foldl bump l).getD s 0 ∧ (xs.foldl bump l).getD s 0 ≤ l.getD s 0 + xs.length := by
  induction xs with
  | nil => intro l s _; simp
  | cons x xs ih =>
    intro l s hs
    have h1 := bump_get l x hs
    have h2 := ih (bump l x) (s := s) (by simp [bump]; exact hs)
    rw [List.foldl_cons]
    simp only [List.length_cons]
    split at h1 <;> omega
theorem foldl_bump_count (xs : List Int) : ∀ (l : List Int) {s : Nat}, s < l.length → (∀ v ∈ xs, 0 ≤ v) → (xs.foldl bump l).getD s 0 = l.getD s 0 + (xs.count (s : Int) : Nat) := by
  induction xs with
  | nil => intro l s _ _; simp
  | cons x xs ih =>
    intro l s hs hv
    have h1 := bump_get l x hs
    have hx := hv x (by simp)
    rw [List.foldl_cons, ih (bump l x) (s := s) (by simp [bump]; exact hs) (fun v h => hv v (by simp [h])), h1, List.count_cons]
    by_cases e : x = (s : Int)
    · subst e; simp; omega
    · have : (x == (s : Int)) = false := by simpa using e
      rw [this, if_neg (by omega)]; simp
theorem natI_nodup {l : List Nat} (h : l.Nodup) : (natI l).Nodup := by
  unfold natI
  exact List.Pairwise.map _ (fun a b hab e => hab (by omega)) h
theorem memN_nodup (s : Nat) : (memN s).Nodup := List.Pairwise.filter _ List.nodup_range
theorem natI_pos (l : List Nat) : ∀ v ∈ natI l, 0 ≤ v := by
  intro v hv
  obtain ⟨n, _, rfl⟩ := List.mem_map.1 hv
  omega
def cTo (b : List Nat) (S G k : Nat) : List Int × List Int := (List.range k).foldl (fun c j => if szX (exS b j) = fewest b S then ((exS b j).1.foldl bump c.1, (exS b j).2.foldl bump c.2) else c) (List.replicate S 0, List.replicate G 0)
theorem cTo_succ (b : List Nat) (S G k : Nat) : cTo b S G (k + 1) = if szX (exS b k) = fewest b S then ((exS b k).1.foldl bump (cTo b S G k).1, (exS b k).2.foldl bump (cTo b S G k).2) else cTo b S G k := by
  simp [cTo, List.range_succ, List.foldl_append]
theorem cTo_len (b : List Nat) (S G k : Nat) : (cTo b S G k).1.length = S ∧ (cTo b S G k).2.length = G := by
  induction k with
  | zero => simp [cTo]
  | succ k ih =>
    rw [cTo_succ]
    split
    · simp only [foldl_bump_len]; exact ih
    · exact ih
theorem one_count {l : List Nat} (h : l.Nodup) (s : Nat) : ((natI l).count (s : Int) : Nat) = if (natI l).contains (s : Int) then 1 else 0 := by
  rw [(natI_nodup h).count]
  simp only [List.contains_iff_mem]
theorem cTo_count (b : List Nat) (S G : Nat) : ∀ k, (∀ s, s < S → (cTo b S G k).1.getD s 0 = ((minsTo b S k).countP fun x => x.1.contains (s : Int) : Nat)) ∧ (∀ g, g < G → (cTo b S G k).2.getD g 0 = ((minsTo b S k).countP fun x => x.2.contains (g : Int) : Nat)) := by
  intro k
  induction k with
  | zero =>
    refine ⟨fun s hs => ?_, fun s hs => ?_⟩ <;> simp [cTo, minsTo, List.getD, List.getElem?_replicate, hs]
  | succ k ih =>
    obtain ⟨h1, h2⟩ := ih
    obtain ⟨l1, l2⟩ := cTo_len b S G k
    rw [cTo_succ, minsTo_succ]
    by_cases hf : szX (exS b k) = fewest b S
    · rw [if_pos hf, if_pos hf]
      refine ⟨fun s hs => ?_, fun s hs => ?_⟩
      · show (List.foldl bump (cTo b S G k).fst (exS b k).fst).getD s 0 = _
        rw [foldl_bump_count (exS b k).1 (cTo b S G k).1 (by omega) (natI_pos _), h1 s hs, List.countP_append]
        simp only [exS]
        rw [one_count (memN_nodup k)]
        simp only [List.countP_cons, List.countP_nil]
        split <;> simp_all
      · show (List.foldl bump (cTo b S G k).snd (exS b k).snd).getD s 0 = _
        rw [foldl_bump_count (exS b k).2 (cTo b S G k).2 (by omega) (natI_pos _), h2 s hs, List.countP_append]
        simp only [exS]
        rw [one_count (memN_nodup _)]
        simp only [List.countP_cons, List.countP_nil]
        split <;> simp_all
    · rw [if_neg hf, if_neg hf, List.append_nil]
      exact ⟨h1, h2⟩
theorem minsTo_len (b : List Nat) (S k : Nat) : (minsTo b S k).length ≤ k := by
  have := List.length_filter_le (fun x => decide (szX x = fewest b S)) ((List.range k).map (exS b))
  simpa [minsTo] using this
def loTo (c : List Int) (all : Int) (k : Nat) : List Nat := (List.range k).filter fun n => decide (c.getD n 0 = all)
theorem loTo_succ (c : List Int) (all : Int) (k : Nat) : loTo c all (k + 1) = loTo c all k ++ if c.getD k 0 = all then [k] else [] := by
  simp only [loTo, List.range_succ, List.filter_append, List.filter_cons, List.filter_nil, decide_eq_true_eq]
theorem loTo_len (c : List Int) (all : Int) (k : Nat) : (loTo c all k).length ≤ k := by
  have := List.length_filter_le (fun n => decide (c.getD n 0 = all)) (List.range k)
  simpa [loTo] using this
theorem cert_eq {S G : Nat} {cells : List (Int × Int)} (h : okCells S G cells = true) :
    certR S G cells = (natI (loTo (cTo (bysN S cells) S G (2 ^ S)).1 (minsTo (bysN S cells) S (2 ^ S)).length S), natI (loTo (cTo (bysN S cells) S G (2 ^ S)).2 (minsTo (bysN S cells) S (2 ^ S)).length G), 0) := by
  obtain ⟨c1, c2⟩ := cTo_count (bysN S cells) S G (2 ^ S)
  have e1 := common_1 h
  have e2 := common_2 h
  rw [Int.toNat_natCast] at e1 e2
  rw [Int.toNat_natCast] at e2
  rw [certR, if_pos h, Int.toNat_natCast, e1, e2]
  rw [minsTo_all] at c1 c2 ⊢
  have f1 : ∀ n ∈ List.range S, (fun n : Nat => (expN (bysN S cells) S).all fun x => x.1.contains (n : Int)) n = (fun n : Nat => decide ((cTo (bysN S cells) S G (2 ^ S)).1.getD n 0 = ((expN (bysN S cells) S).length : Nat))) n := fun n hn => by
    simp only
    rw [c1 n (List.mem_range.1 hn), ← count_all]
    exact decide_eq_decide.2 (by omega)
  have f2 : ∀ n ∈ List.range G, (fun n : Nat => (expN (bysN S cells) S).all fun x => x.2.contains (n : Int)) n = (fun n : Nat => decide ((cTo (bysN S cells) S G (2 ^ S)).2.getD n 0 = ((expN (bysN S cells) S).length : Nat))) n := fun n hn => by
    simp only
    rw [c2 n (List.mem_range.1 hn), ← count_all]
    exact decide_eq_decide.2 (by omega)
  unfold loTo
  rw [List.filter_congr f1, List.filter_congr f2]
theorem gd_at {l : List Int} {k : Nat} (h : k < l.length) : l.getD k 0 = l[k] := by simp [List.getD, List.getElem?_eq_getElem h]
theorem set_bump {l : List Int} {a : Nat} (ha : a < l.length) : (l.map ri).set a [.int .i64 (l[a] + 1)] = (bump l (a : Int)).map ri := by
  have : l.getD a 0 = l[a] := by simp [List.getD, List.getElem?_eq_getElem ha]
  rw [bump, Int.toNat_natCast, this, List.map_set]; rfl
theorem cTo_bound (b : List Nat) (S G : Nat) (k : Nat) : (∀ s, s < S → 0 ≤ (cTo b S G k).1.getD s 0 ∧ (cTo b S G k).1.getD s 0 ≤ k) ∧ (∀ g, g < G → 0 ≤ (cTo b S G k).2.getD g 0 ∧ (cTo b S G k).2.getD g 0 ≤ k) := by
  obtain ⟨h1, h2⟩ := cTo_count b S G k
  have hl := minsTo_len b S k
  refine ⟨fun s hs => ?_, fun s hs => ?_⟩
  · rw [h1 s hs]
    have := List.countP_le_length (p := fun x : Ex1 => x.1.contains (s : Int)) (l := minsTo b S k)
    omega
  · rw [h2 s hs]
    have := List.countP_le_length (p := fun x : Ex1 => x.2.contains (s : Int)) (l := minsTo b S k)
    omega
abbrev heap32 (c1 c2 : List Int) : Hp := hps [(3249, { base := 0, blks := [{ z := 1, els := c2.map ri, ty := 3 }] }), (3247, { base := 0, blks := [{ z := 1, els := c1.map ri, ty := 3 }] })] noH
noncomputable abbrev E32 : Env := { P := Try.prog, fn := tbl [(43, .pure chkCS), (30, .pure ExplainS), (68, .pure expnS)], own := [], key := 3200, nt := 136 }
theorem b32 : PureBody E32 [] Try.f32 CertainS := by
  refine pb ?_
  rintro ⟨se, ge, cells⟩ p1
  simp only at p1
  by_cases hv : okCells se ge cells = true
  case neg =>
    have hv' : okCells se ge cells = false := by simpa using hv
    simp -dsimp [Try.f32, E32, hv', certR]
    repeat' (first | omega | (simp -dsimp [E32, ri, cellp, ints, hv', p1, certR]) | (refine Also.intro ?_ fun _ => ?_) | (refine Hold.intro fun _ => ?_) | (refine And.intro ?_ ?_))
  obtain ⟨q1, q2, q3, q4⟩ := okCells_facts hv
  have q5 : 1 ≤ ge ∧ ge ≤ 12 := by simp only [okCells, Bool.and_eq_true, withinB, decide_eq_true_eq] at hv; omega
  obtain ⟨S, rfl⟩ := Int.eq_ofNat_of_zero_le (show 0 ≤ se by omega)
  obtain ⟨G, rfl⟩ := Int.eq_ofNat_of_zero_le (show 0 ≤ ge by omega)
  have hS : S ≤ 8 := by omega
  have hG : G ≤ 12 := by omega
  have hpos : 0 < 2 ^ S := Nat.two_pow_pos S
  have h2n : 2 ^ S ≤ 256 := Nat.le_trans (Nat.pow_le_pow_right (by decide) hS) (by decide)
  have h1 : shlV .i64 1 (S : Int) = ((2 ^ S : Nat) : Int) := bit_shl S (by omega)
  have wu : IntKind.wrap .u64 (S : Int) = S := wrap_u (by omega) (by omega)
  have hcell := ok_cell hv
  have hx12 : ∀ k, k < 2 ^ S → (∀ v ∈ (exS (bysN S cells) k).1, ∃ n : Nat, v = n ∧ n < S) ∧ (∀ v ∈ (exS (bysN S cells) k).2, ∃ n : Nat, v = n ∧ n < G) := by
    intro k hk
    constructor
    · intro v hv1
      rw [exS_1 (by omega) hk] at hv1
      obtain ⟨n, hn, rfl⟩ := List.mem_map.1 hv1
      exact ⟨n, rfl, List.mem_range.1 (List.mem_filter.1 hn).1⟩
    · intro v hv1
      simp only [exS] at hv1
      rw [wornX_eq hv] at hv1
      obtain ⟨n, hn, rfl⟩ := List.mem_map.1 hv1
      exact ⟨n, rfl, by simpa using List.mem_range.1 (List.mem_filter.1 hn).1⟩
  have hlen : ∀ k, (exS (bysN S cells) k).1.length ≤ 62 ∧ (exS (bysN S cells) k).2.length ≤ 62 := fun k => by
    simp only [exS, natI_length]
    exact ⟨memN_len _, memN_len _⟩
  have hm : (minX (expN (bysN S cells) S)).1.length ≤ 62 ∧ (minX (expN (bysN S cells) S)).2.length ≤ 62 := expTo_mem (bysN S cells) _ _ (minX_mem (expN_pos (bysN S cells) S))
  have hex : explR S G cells = ((minX (expN (bysN S cells) S)).1, (minX (expN (bysN S cells) S)).2, 0) := by rw [explR, if_pos hv, Int.toNat_natCast]
  have hfew : ((minX (expN (bysN S cells) S)).1.length : Int) + (minX (expN (bysN S cells) S)).2.length = (fewest (bysN S cells) S : Nat) := by
    unfold fewest szX; omega
  have hfl : fewest (bysN S cells) S ≤ 124 := by unfold fewest szX; omega
  have wf : IntKind.wrap .i64 (((minX (expN (bysN S cells) S)).1.length : Int) + (minX (expN (bysN S cells) S)).2.length) = (fewest (bysN S cells) S : Nat) := by
    rw [wrap_id (by omega) (by omega)]; exact hfew
  rw [cert_eq hv]
  generalize hN : 2 ^ S = N at *
  simp -dsimp [Try.f32, E32, hv, ints]
  repeat' (first | omega | (simp -dsimp [E32, ri, cellp, ints, hv, p1, hex, wf, hS, hG]) | (refine Also.intro ?_ fun _ => ?_) | (refine Hold.intro fun _ => ?_) | (refine And.intro ?_ ?_))
  refine awp_loop [50, 51, 52, 53, 54, 58, 59, 60, 61, 62, 57, 63, 64, 18, 19, 65, 66, 67, 68, 69, 70, 71, 72, 73, 16, 20, 74, 75, 76, 77, 80, 81, 82, 83, 84, 85, 86, 87, 88, 78, 79, 21, 89, 90, 91, 92, 95, 96, 97, 98, 99, 100, 101, 102, 103, 93, 94, 55, 56, 17] (fun k : Fin (N + 1) => [(17, (true, .int .i64 (k.1 : Nat))), (16, (true, .int .i64 ((minsTo (bysN S cells) S k.1).length : Nat)))])
    (fun k => heap32 (cTo (bysN S cells) S G k.1).1 (cTo (bysN S cells) S G k.1).2) (fun k => N - k.1) ⟨0, by omega⟩ ?_ ?_ ?_
  · simp [okAll, okv, minsTo]
  · exact (by (try simp -dsimp only [hpush_noH, hpush_hps, hps_over]); refine hle_hps ?_; simp -dsimp [allK, cTo, ri]; repeat' (first | (refine And.intro ?_ ?_) | (refine sLe.same ?_ ?_ <;> (simp; done)) | (refine sLe.clear ?_ ?_ <;> (simp; done)) | (refine sLe.drop 1 ?_ ?_ ?_ <;> (simp; done))))
  rintro ⟨k, hk⟩
  simp only
  by_cases hk1 : k < N
  case neg =>
    have hke : k = N := by omega
    subst hke
    have hki : ¬ (k : Int) < (k : Int) := by omega
    obtain ⟨l1, l2⟩ := cTo_len (bysN S cells) S G k
    have hml := minsTo_len (bysN S cells) S k
    generalize ((minsTo (bysN S cells) S k).length : Int) = all at *
    generalize (cTo (bysN S cells) S G k).1 = c1 at *
    generalize (cTo (bysN S cells) S G k).2 = c2 at *
    simp -dsimp [wu, h1]
    refine awp_loop_g [(22, 3318, 1, 3)] rfl (by simp) [104, 105, 106, 109, 110, 111, 112, 113, 114, 115, 116, 117, 118, 22, 107, 108, 24] (fun n : Fin (S + 1) => [(24, (true, .int .i64 (n.1 : Nat))), (22, (true, .bsl 3318 0 (loTo c1 all n.1).length))])
      (fun n => hps [(3318, { base := 0, blks := [{ z := 1, els := (natI (loTo c1 all n.1)).map ri, ty := 3 }] }), (3249, { base := 0, blks := [{ z := 1, els := c2.map ri, ty := 3 }] }), (3247, { base := 0, blks := [{ z := 1, els := c1.map ri, ty := 3 }] })] noH) (fun n => S - n.1) ⟨0, by omega⟩ ?_ ?_ ?_
    · simp [okAll, okv, loTo]
    · exact (by (try simp -dsimp only [hpush_noH, hpush_hps, hps_over]); refine hle_hps ?_; simp -dsimp [allK, loTo, natI]; repeat' (first | (refine And.intro ?_ ?_) | (refine sLe.same ?_ ?_ <;> (simp; done)) | (refine sLe.clear ?_ ?_ <;> (simp; done)) | (refine sLe.drop 1 ?_ ?_ ?_ <;> (simp; done))))
    rintro ⟨n, hnn⟩
    simp only
    by_cases hn1 : n < S
    · have w1 : IntKind.wrap .i64 ((n : Int) + 1) = (n + 1 : Nat) := wrap_id (by omega) (by omega)
      have hlo := loTo_len c1 all n
      have hs := loTo_succ c1 all n
      have nl : n < c1.length := by omega
      rw [gd_at nl] at hs
      have hb8 : ((loTo c1 all n).length + 1) * 8 ≤ 140737488355328 := by omega
      by_cases hc : c1[n] = all
      · rw [if_pos hc] at hs
        simp -dsimp [hn1]
        repeat' (first | omega | (simp -dsimp [E32, ri, cellp, ints, hn1, nl, l1, hc, w1, hb8]) | (refine Also.intro ?_ fun _ => ?_) | (refine Hold.intro fun _ => ?_) | (refine And.intro ?_ ?_))
        refine ⟨⟨n + 1, by omega⟩, tle_chain rfl ?_, (by (try simp -dsimp only [hpush_noH, hpush_hps, hps_over]); refine hle_hps ?_; simp -dsimp [allK, hs, natI, ri]; repeat' (first | (refine And.intro ?_ ?_) | (refine sLe.same ?_ ?_ <;> (simp; done)) | (refine sLe.clear ?_ ?_ <;> (simp; done)) | (refine sLe.drop 1 ?_ ?_ ?_ <;> (simp; done)))), by simp only; omega⟩
        simp [okAll, okv, hs]
      · rw [if_neg hc, List.append_nil] at hs
        simp -dsimp [hn1]
        repeat' (first | omega | (simp -dsimp [E32, ri, cellp, ints, hn1, nl, l1, hc, w1]) | (refine Also.intro ?_ fun _ => ?_) | (refine Hold.intro fun _ => ?_) | (refine And.intro ?_ ?_))
        refine ⟨⟨n + 1, by omega⟩, tle_chain rfl ?_, (by (try simp -dsimp only [hpush_noH, hpush_hps, hps_over]); refine hle_hps ?_; simp -dsimp [allK, hs]; repeat' (first | (refine And.intro ?_ ?_) | (refine sLe.same ?_ ?_ <;> (simp; done)) | (refine sLe.clear ?_ ?_ <;> (simp; done)) | (refine sLe.drop 1 ?_ ?_ ?_ <;> (simp; done)))), by simp only; omega⟩
        simp [okAll, okv, hs]
    have hnen : n = S := by omega
    subst hnen
    simp -dsimp
    refine awp_loop_g [(23, 3333, 1, 3)] rfl (by simp) [119, 120, 121, 124, 125, 126, 127, 128, 129, 130, 131, 132, 133, 23, 122, 123, 25] (fun g : Fin (G + 1) => [(25, (true, .int .i64 (g.1 : Nat))), (23, (true, .bsl 3333 0 (loTo c2 all g.1).length))])
      (fun g => hps [(3333, { base := 0, blks := [{ z := 1, els := (natI (loTo c2 all g.1)).map ri, ty := 3 }] }), (3318, { base := 0, blks := [{ z := 1, els := (natI (loTo c1 all n)).map ri, ty := 3 }] }), (3249, { base := 0, blks := [{ z := 1, els := c2.map ri, ty := 3 }] }), (3247, { base := 0, blks := [{ z := 1, els := c1.map ri, ty := 3 }] })] noH) (fun g => G - g.1) ⟨0, by omega⟩ ?_ ?_ ?_
    · simp [okAll, okv, loTo]
    · exact (by (try simp -dsimp only [hpush_noH, hpush_hps, hps_over]); refine hle_hps ?_; simp -dsimp [allK, loTo, natI]; repeat' (first | (refine And.intro ?_ ?_) | (refine sLe.same ?_ ?_ <;> (simp; done)) | (refine sLe.clear ?_ ?_ <;> (simp; done)) | (refine sLe.drop 1 ?_ ?_ ?_ <;> (simp; done))))
    rintro ⟨g, hng⟩
    simp only
    by_cases hn1 : g < G
    · have w1 : IntKind.wrap .i64 ((g : Int) + 1) = (g + 1 : Nat) := wrap_id (by omega) (by omega)
      have hlo := loTo_len c2 all g
      have hs := loTo_succ c2 all g
      have nl : g < c2.length := by omega
      rw [gd_at nl] at hs
      have hb8 : ((loTo c2 all g).length + 1) * 8 ≤ 140737488355328 := by omega
      by_cases hc : c2[g] = all
      · rw [if_pos hc] at hs
        simp -dsimp [hn1]
        repeat' (first | omega | (simp -dsimp [E32, ri, cellp, ints, hn1, nl, l2, hc, w1, hb8]) | (refine Also.intro ?_ fun _ => ?_) | (refine Hold.intro fun _ => ?_) | (refine And.intro ?_ ?_))
        refine ⟨⟨g + 1, by omega⟩, tle_chain rfl ?_, (by (try simp -dsimp only [hpush_noH, hpush_hps, hps_over]); refine hle_hps ?_; simp -dsimp [allK, hs, natI, ri]; repeat' (first | (refine And.intro ?_ ?_) | (refine sLe.same ?_ ?_ <;> (simp; done)) | (refine sLe.clear ?_ ?_ <;> (simp; done)) | (refine sLe.drop 1 ?_ ?_ ?_ <;> (simp; done)))), by simp only; omega⟩
        simp [okAll, okv, hs]
      · rw [if_neg hc, List.append_nil] at hs
        simp -dsimp [hn1]
        repeat' (first | omega | (simp -dsimp [E32, ri, cellp, ints, hn1, nl, l2, hc, w1]) | (refine Also.intro ?_ fun _ => ?_) | (refine Hold.intro fun _ => ?_) | (refine And.intro ?_ ?_))
        refine ⟨⟨g + 1, by omega⟩, tle_chain rfl ?_, (by (try simp -dsimp only [hpush_noH, hpush_hps, hps_over]); refine hle_hps ?_; simp -dsimp [allK, hs]; repeat' (first | (refine And.intro ?_ ?_) | (refine sLe.same ?_ ?_ <;> (simp; done)) | (refine sLe.clear ?_ ?_ <;> (simp; done)) | (refine sLe.drop 1 ?_ ?_ ?_ <;> (simp; done)))), by simp only; omega⟩
        simp [okAll, okv, hs]
    have hneg : g = G := by omega
    subst hneg
    simp -dsimp
    repeat' (first | omega | (simp -dsimp [E32, ri, cellp, ints, l1]) | (refine Also.intro ?_ fun _ => ?_) | (refine Hold.intro fun _ => ?_) | (refine And.intro ?_ ?_))
  have hki : (k : Int) < (N : Int) := by omega
  have w1 : IntKind.wrap .i64 ((k : Int) + 1) = (k + 1 : Nat) := wrap_id (by omega) (by omega)
  have hst := cTo_succ (bysN S cells) S G k
  have hms := minsTo_succ (bysN S cells) S k
  obtain ⟨hxa, hxb⟩ := hx12 k hk1
  obtain ⟨hla, hlb⟩ := hlen k
  have hml := minsTo_len (bysN S cells) S k
  obtain ⟨l1, l2⟩ := cTo_len (bysN S cells) S G k
  obtain ⟨b1, b2⟩ := cTo_bound (bysN S cells) S G k
  generalize hxe : exS (bysN S cells) k = x at *
  generalize cTo (bysN S cells) S G k = c at *
  obtain ⟨x1, x2⟩ := x
  obtain ⟨c1, c2⟩ := c
  simp only at hxa hxb hla hlb l1 l2 b1 b2 hst hms
  have hsz : szX (x1, x2) = x1.length + x2.length := rfl
  rw [hsz] at hst hms
  have wa : IntKind.wrap .i64 ((x1.length : Int) + x2.length) = (x1.length : Int) + x2.length := wrap_id (by omega) (by omega)
  by_cases hf : x1.length + x2.length = fewest (bysN S cells) S
  case neg =>
    have hf' : ¬ (x1.length : Int) + x2.length = (fewest (bysN S cells) S : Nat) := by omega
    rw [if_neg hf] at hst hms
    rw [List.append_nil] at hms
    simp -dsimp [wu, h1, hki]
    repeat' (first | omega | (simp -dsimp [E32, ri, cellp, ints, wu, h1, hki, hv, hN, p1, hk1, hxe, wa, hf', w1]) | (refine Also.intro ?_ fun _ => ?_) | (refine Hold.intro fun _ => ?_) | (refine And.intro ?_ ?_))
    refine ⟨⟨k + 1, by omega⟩, tle_chain rfl ?_, (by (try simp -dsimp only [hpush_noH, hpush_hps, hps_over]); refine hle_hps ?_; simp -dsimp [allK, hst]; repeat' (first | (refine And.intro ?_ ?_) | (refine sLe.same ?_ ?_ <;> (simp; done)) | (refine sLe.clear ?_ ?_ <;> (simp; done)) | (refine sLe.drop 1 ?_ ?_ ?_ <;> (simp; done)))), by simp only; omega⟩
    simp [okAll, okv, hms]
  have hf' : (x1.length : Int) + x2.length = (fewest (bysN S cells) S : Nat) := by omega
  rw [if_pos hf] at hst hms
  have wa2 := wa.trans hf'
  have wm : IntKind.wrap .i64 (((minsTo (bysN S cells) S k).length : Int) + 1) = (minsTo (bysN S cells) S (k + 1)).length := by
    rw [wrap_id (by omega) (by omega), hms]; simp
  clear hms
  simp -dsimp [wu, h1, hki]
  repeat' (first | omega | (simp -dsimp [E32, ri, cellp, ints, wu, h1, hki, hv, hN, p1, hk1, hxe, wa2, wm]) | (refine Also.intro ?_ fun _ => ?_) | (refine Hold.intro fun _ => ?_) | (refine And.intro ?_ ?_))
  refine awp_loop [74, 75, 76, 77, 80, 81, 82, 83, 84, 85, 86, 87, 88, 78, 79, 20] (fun i : Fin (x1.length + 1) => [(20, (true, .int .i64 (i.1 : Nat)))])
    (fun i => heap32 (bumpTo c1 x1 i.1) c2) (fun i => x1.length - i.1) ⟨0, by omega⟩ ?_ ?_ ?_
  · simp [okAll, okv]
  · exact (by (try simp -dsimp only [hpush_noH, hpush_hps, hps_over]); refine hle_hps ?_; simp -dsimp [allK, bumpTo]; repeat' (first | (refine And.intro ?_ ?_) | (refine sLe.same ?_ ?_ <;> (simp; done)) | (refine sLe.clear ?_ ?_ <;> (simp; done)) | (refine sLe.drop 1 ?_ ?_ ?_ <;> (simp; done))))
  rintro ⟨i, hi⟩
  simp only
  by_cases hi1 : i < x1.length
  · obtain ⟨v, hv1, hvS⟩ := hxa x1[i] (List.getElem_mem hi1)
    have hbs := bumpTo_succ c1 x1 hi1
    rw [hv1] at hbs
    have hbl := bumpTo_len c1 x1 i
    have hbb : c1.getD v 0 ≤ (bumpTo c1 x1 i).getD v 0 ∧ (bumpTo c1 x1 i).getD v 0 ≤ c1.getD v 0 + (x1.take i).length := foldl_bump_bound (x1.take i) c1 (s := v) (by omega)
    have hcb := b1 v hvS
    have htl : (x1.take i).length ≤ 62 := by rw [List.length_take]; omega
    have wi1 : IntKind.wrap .i64 ((i : Int) + 1) = (i + 1 : Nat) := wrap_id (by omega) (by omega)
    generalize bumpTo c1 x1 i = d at *
    have hvd : v < d.length := by omega
    rw [gd_at hvd] at hbb
    have hset := set_bump hvd
    have wd : IntKind.wrap .i64 (d[v] + 1) = d[v] + 1 := wrap_id (by omega) (by omega)
    have hdS : d.length = S := by omega
    simp -dsimp [hi1, hv1]
    repeat' (first | omega | (simp -dsimp [E32, ri, cellp, ints, hi1, hv1, hvd, hvS, hdS, wd, wi1, hset, ri]) | (refine Also.intro ?_ fun _ => ?_) | (refine Hold.intro fun _ => ?_) | (refine And.intro ?_ ?_))
    refine ⟨⟨i + 1, by omega⟩, tle_chain rfl ?_, (by (try simp -dsimp only [hpush_noH, hpush_hps, hps_over]); refine hle_hps ?_; simp -dsimp [allK, hbs]; repeat' (first | (refine And.intro ?_ ?_) | (refine sLe.same ?_ ?_ <;> (simp; done)) | (refine sLe.clear ?_ ?_ <;> (simp; done)) | (refine sLe.drop 1 ?_ ?_ ?_ <;> (simp; done)))), by simp only; omega⟩
    simp [okAll, okv]
  have hie : i = x1.length := by omega
  subst hie
  have hfull : bumpTo c1 x1 x1.length = x1.foldl bump c1 := by rw [bumpTo, List.take_of_length_le (Nat.le_refl _)]
  simp -dsimp [hfull]
  clear hfull
  refine awp_loop [89, 90, 91, 92, 95, 96, 97, 98, 99, 100, 101, 102, 103, 93, 94, 21] (fun i : Fin (x2.length + 1) => [(21, (true, .int .i64 (i.1 : Nat)))])
    (fun i => heap32 (x1.foldl bump c1) (bumpTo c2 x2 i.1)) (fun i => x2.length - i.1) ⟨0, by omega⟩ ?_ ?_ ?_
  · simp [okAll, okv]
  · exact (by (try simp -dsimp only [hpush_noH, hpush_hps, hps_over]); refine hle_hps ?_; simp -dsimp [allK, bumpTo]; repeat' (first | (refine And.intro ?_ ?_) | (refine sLe.same ?_ ?_ <;> (simp; done)) | (refine sLe.clear ?_ ?_ <;> (simp; done)) | (refine sLe.drop 1 ?_ ?_ ?_ <;> (simp; done))))
  rintro ⟨i, hi⟩
  simp only
  by_cases hi1 : i < x2.length
  · obtain ⟨v, hv1, hvS⟩ := hxb x2[i] (List.getElem_mem hi1)
    have hbs := bumpTo_succ c2 x2 hi1
    rw [hv1] at hbs
    have hbl := bumpTo_len c2 x2 i
    have hbb : c2.getD v 0 ≤ (bumpTo c2 x2 i).getD v 0 ∧ (bumpTo c2 x2 i).getD v 0 ≤ c2.getD v 0 + (x2.take i).length := foldl_bump_bound (x2.take i) c2 (s := v) (by omega)
    have hcb := b2 v hvS
    have htl : (x2.take i).length ≤ 62 := by rw [List.length_take]; omega
    have wi1 : IntKind.wrap .i64 ((i : Int) + 1) = (i + 1 : Nat) := wrap_id (by omega) (by omega)
    generalize bumpTo c2 x2 i = d at *
    have hvd : v < d.length := by omega
    rw [gd_at hvd] at hbb
    have hset := set_bump hvd
    have wd : IntKind.wrap .i64 (d[v] + 1) = d[v] + 1 := wrap_id (by omega) (by omega)
    have hdS : d.length = G := by omega
    simp -dsimp [hi1, hv1]
    repeat' (first | omega | (simp -dsimp [E32, ri, cellp, ints, hi1, hv1, hvd, hvS, hdS, wd, wi1, hset, ri]) | (refine Also.intro ?_ fun _ => ?_) | (refine Hold.intro fun _ => ?_) | (refine And.intro ?_ ?_))
    refine ⟨⟨i + 1, by omega⟩, tle_chain rfl ?_, (by (try simp -dsimp only [hpush_noH, hpush_hps, hps_over]); refine hle_hps ?_; simp -dsimp [allK, hbs]; repeat' (first | (refine And.intro ?_ ?_) | (refine sLe.same ?_ ?_ <;> (simp; done)) | (refine sLe.clear ?_ ?_ <;> (simp; done)) | (refine sLe.drop 1 ?_ ?_ ?_ <;> (simp; done)))), by simp only; omega⟩
    simp [okAll, okv]
  have hie : i = x2.length := by omega
  subst hie
  have hfull : bumpTo c2 x2 x2.length = x2.foldl bump c2 := by rw [bumpTo, List.take_of_length_le (Nat.le_refl _)]
  simp -dsimp [hfull]
  clear hfull
  repeat' (first | omega | (simp -dsimp [E32, ri, cellp, ints, w1]) | (refine Also.intro ?_ fun _ => ?_) | (refine Hold.intro fun _ => ?_) | (refine And.intro ?_ ?_))
  refine ⟨⟨k + 1, by omega⟩, tle_kept (kept_upds rfl (kept_forget rfl (kept_upds rfl (kept_forget rfl (kept_upds rfl kept_base))))) ?_, (by (try simp -dsimp only [hpush_noH, hpush_hps, hps_over]); refine hle_hps ?_; simp -dsimp [allK, hst]; repeat' (first | (refine And.intro ?_ ?_) | (refine sLe.same ?_ ?_ <;> (simp; done)) | (refine sLe.clear ?_ ?_ <;> (simp; done)) | (refine sLe.drop 1 ?_ ?_ ?_ <;> (simp; done)))), by simp only; omega⟩
  simp [okAll, okv]
theorem ok32 : FnOK Try.prog 32 (.pure CertainS) := pure_fn (E := E32) rfl (.cons ok43 (.cons ok30 (.cons ok68 .nil))) (ok := []) (fn := Try.f32) (by kernel_rfl) (by kernel_rfl) (by kernel_rfl) (by kernel_rfl) rfl (fun _ _ => by simp) b32
end Go.Sx

