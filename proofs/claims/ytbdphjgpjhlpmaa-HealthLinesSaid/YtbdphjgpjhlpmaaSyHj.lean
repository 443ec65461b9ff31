/- A part of a proof; no conditions. -/
import Derived.Test.YtbdphjgpjhlpmaaSyHi
set_option linter.unusedSimpArgs false
set_option linter.unusedVariables false
set_option maxRecDepth 100000
set_option maxHeartbeats 1000000
namespace Go.Sx
open Go.Proofs

/-! newBox -/
def rowC (c : Int × Int) : List V := [.int .i64 c.1, .int .i64 c.2]
def V.toCells (v : V) : List (Int × Int) := v.rows.map fun r => ((r.getD 0 .top).toInt, (r.getD 1 .top).toInt)
@[simp] theorem toCells_sl (l : List (Int × Int)) : (V.sl 2 (l.map rowC)).toCells = l := by
  simp only [V.toCells, V.rows, List.map_map]
  have : ((fun r : List V => ((r.getD 0 .top).toInt, (r.getD 1 .top).toInt)) ∘ rowC) = id := by
    funext x; simp [rowC, List.getD]
  rw [this, List.map_id]
def okAt (se ge : Int) (cells : List (Int × Int)) (i : Nat) : Bool :=
  withinB (cells.getD i (0, 0)).1 0 (se - 1) && withinB (cells.getD i (0, 0)).2 0 (ge - 1) && (i == 0 || decide (cmpL [(cells.getD (i - 1) (0, 0)).1, (cells.getD (i - 1) (0, 0)).2] [(cells.getD i (0, 0)).1, (cells.getD i (0, 0)).2] < 0))
def okTo (se ge : Int) (cells : List (Int × Int)) (k : Nat) : Bool := (List.range k).all (okAt se ge cells)
theorem okTo_succ (se ge : Int) (cells : List (Int × Int)) (k : Nat) : okTo se ge cells (k + 1) = (okTo se ge cells k && okAt se ge cells k) := by
  simp [okTo, List.range_succ]
theorem okTo_fail {se ge : Int} {cells : List (Int × Int)} {k n : Nat} (h : okAt se ge cells k = false) (hk : k < n) : okTo se ge cells n = false := by
  simp only [okTo, List.all_eq_false, List.mem_range]
  exact ⟨k, hk, by simp [h]⟩
def okCells (se ge : Int) (cells : List (Int × Int)) : Bool := withinB se 1 8 && withinB ge 1 12 && okTo se ge cells cells.length
def stepB (l : List Nat) (c : Int × Int) : List Nat := l.set c.1.toNat (orN (l.getD c.1.toNat 0) (2 ^ c.2.toNat))
def bysTo (se : Int) (cells : List (Int × Int)) (k : Nat) : List Nat := (cells.take k).foldl stepB (List.replicate se.toNat 0)
theorem bysTo_succ (se : Int) (cells : List (Int × Int)) {k : Nat} (h : k < cells.length) : bysTo se cells (k + 1) = stepB (bysTo se cells k) cells[k] := by
  rw [bysTo, List.take_succ_eq_append_getElem h, List.foldl_append]; rfl
theorem stepB_length (l : List Nat) (c : Int × Int) : (stepB l c).length = l.length := by simp [stepB]
theorem bysTo_length (se : Int) (cells : List (Int × Int)) (k : Nat) : (bysTo se cells k).length = se.toNat := by
  unfold bysTo
  have : ∀ (cs : List (Int × Int)) (l : List Nat), (cs.foldl stepB l).length = l.length := by
    intro cs
    induction cs with
    | nil => intro l; rfl
    | cons c cs ih => intro l; rw [List.foldl_cons, ih, stepB_length]
  rw [this]; simp
def bysN (se : Int) (cells : List (Int × Int)) : List Nat := bysTo se cells cells.length
def boxOf (se ge : Int) (cells : List (Int × Int)) : BoxD := ⟨se, ge, cells.map rowC, bysN se cells⟩
theorem bysTo_lt {se ge : Int} {cells : List (Int × Int)} (hg : ge ≤ 12) : ∀ k, k ≤ cells.length → okTo se ge cells k = true → ∀ x ∈ bysTo se cells k, x < 2 ^ 12 := by
  intro k
  induction k with
  | zero => intro _ _ x hx; simp [bysTo] at hx; omega
  | succ k ih =>
    intro hk ho x hx
    rw [okTo_succ, Bool.and_eq_true] at ho
    have hk1 : k < cells.length := hk
    rw [bysTo_succ se cells hk1] at hx
    have ih := ih (by omega) ho.1
    have eG : cells.getD k (0, 0) = cells[k] := by simp [List.getD, List.getElem?_eq_getElem hk1]
    have h2 := ho.2
    simp only [okAt, eG, Bool.and_eq_true, withinB, decide_eq_true_eq] at h2
    unfold stepB at hx
    rcases List.mem_or_eq_of_mem_set hx with h | h
    · exact ih x h
    · subst h
      refine Nat.or_lt_two_pow ?_ (Nat.pow_lt_pow_right (by decide) (by omega))
      simp only [List.getD]
      cases e : (bysTo se cells k)[(cells[k]).1.toNat]? with
      | none => simp
      | some y => simp; exact ih y (List.mem_of_getElem? e)
abbrev newBoxS : PSpec := { dom := Int × Int × List (Int × Int), enc := fun d => [.int .i64 d.1, .int .i64 d.2.1, .sl 2 (d.2.2.map rowC)], dec := fun l => ((l.getD 0 .top).toInt, (l.getD 1 .top).toInt, (l.getD 2 .top).toCells), pre := fun d => d.2.2.length ≤ 9223372036854775807, res := fun d => if okCells d.1 d.2.1 d.2.2 then .tup [boxV (boxOf d.1 d.2.1 d.2.2), .bool true] else .tup [.nilp, .bool false] }
noncomputable abbrev E30 : Env := { P := Try.prog, fn := tbl [(24, .pure withinS), (35, .pure cmpLS)], own := [], key := 3000, nt := 76, frz := [(7, [10])] }
theorem b30 : PureBody E30 [] Try.f30 newBoxS := by
  refine pb ?_
  rintro ⟨se, ge, cells⟩ p1
  simp only at p1
  by_cases q1 : withinB se 1 8 = true
  case neg =>
    have q1' : withinB se 1 8 = false := by simpa using q1
    simp -dsimp [Try.f30, E30, q1', okCells]
    repeat' (first | omega | (simp -dsimp [E30, ri, cellp, ints, q1', okCells]) | (refine Also.intro ?_ fun _ => ?_) | (refine Hold.intro fun _ => ?_) | (refine And.intro ?_ ?_))
  by_cases q2 : withinB ge 1 12 = true
  case neg =>
    have q2' : withinB ge 1 12 = false := by simpa using q2
    simp -dsimp [Try.f30, E30, q1, q2', okCells]
    repeat' (first | omega | (simp -dsimp [E30, ri, cellp, ints, q1, q2', okCells]) | (refine Also.intro ?_ fun _ => ?_) | (refine Hold.intro fun _ => ?_) | (refine And.intro ?_ ?_))
  have q1' : 1 ≤ se ∧ se ≤ 8 := by simpa [withinB] using q1
  have q2' : 1 ≤ ge ∧ ge ≤ 12 := by simpa [withinB] using q2
  obtain ⟨n, rfl⟩ := Int.eq_ofNat_of_zero_le (show 0 ≤ se by omega)
  have ws : IntKind.wrap .i64 ((n : Int) - 1) = (n : Int) - 1 := wrap_id (by omega) (by omega)
  have wg : IntKind.wrap .i64 (ge - 1) = ge - 1 := wrap_id (by omega) (by omega)
  have n8 : n ≤ 8 := by omega
  simp -dsimp [Try.f30, E30, q1, q2]
  repeat' (first | omega | (simp -dsimp [E30, ri, cellp, ints, q1, q2, n8]) | (refine Also.intro ?_ fun _ => ?_) | (refine Hold.intro fun _ => ?_) | (refine And.intro ?_ ?_))
  refine awp_loop [29, 30, 31, 32, 10, 9, 33, 34, 35, 36, 37, 38, 39, 40, 41, 42, 43, 44, 45, 46, 47, 48, 49, 50, 51, 52, 53, 54, 55, 56, 57, 58, 59, 60, 6, 7, 61, 62, 63, 64, 65, 66, 67, 68, 69, 70, 71, 72, 73, 74, 28]
    (fun k : { k : Nat // k ≤ cells.length ∧ okTo n ge cells k = true } => [(28, (true, .int .i64 (k.1 : Nat)))])
    (fun k => hps [(3025, { base := 0, blks := [{ z := 4, els := [[.int .i64 n, .int .i64 ge, .sl 2 (cells.map rowC), .bsl 3023 0 n]], ty := 89, cl := false }] }), (3023, { base := 0, blks := [{ z := 1, els := (bysTo n cells k.1).map rn, ty := 3 }] }), (3010, { base := k.1, blks := [] })] noH) (fun k => cells.length - k.1) ⟨0, by omega, rfl⟩ ?_ (by (try simp -dsimp only [hpush_noH, hpush_hps, hps_over]); refine hle_hps ?_; simp -dsimp [allK, bysTo, rn]; repeat' (first | (refine And.intro ?_ ?_) | (refine sLe.same ?_ ?_ <;> (simp; done)) | (refine sLe.clear ?_ ?_ <;> (simp; done)) | (refine sLe.drop 1 ?_ ?_ ?_ <;> (simp; done)))) ?_
  · simp [okAll, okv]
  rintro ⟨k, hk, hok⟩
  simp only
  by_cases hk1 : k < cells.length
  case neg =>
    have hke : k = cells.length := by omega
    subst hke
    have hokc : okCells n ge cells = true := by simp [okCells, q1, q2, hok]
    have hbl := bysTo_length n cells cells.length
    rw [Int.toNat_natCast] at hbl
    simp -dsimp [hokc, boxV, boxOf, bysN]
    repeat' (first | omega | (simp -dsimp [E30, ri, cellp, ints, hokc, boxV, boxOf, bysN, hbl]) | (refine Also.intro ?_ fun _ => ?_) | (refine Hold.intro fun _ => ?_) | (refine And.intro ?_ ?_))
  have hs := okTo_succ n ge cells k
  have hbs := bysTo_succ n cells hk1
  have hbl := bysTo_length n cells k
  have eG : cells.getD k (0, 0) = cells[k] := by simp [List.getD, List.getElem?_eq_getElem hk1]
  have w1 : IntKind.wrap .i64 ((k : Int) + 1) = (k + 1 : Nat) := wrap_id (by omega) (by omega)
  have hfail : okAt n ge cells k = false → okCells n ge cells = false := fun h => by simp [okCells, okTo_fail h hk1]
  have hat : okAt n ge cells k = (withinB (cells[k]).1 0 ((n : Int) - 1) && withinB (cells[k]).2 0 (ge - 1) && (k == 0 || decide (cmpL [(cells.getD (k - 1) (0, 0)).1, (cells.getD (k - 1) (0, 0)).2] [(cells[k]).1, (cells[k]).2] < 0))) := by
    rw [okAt, eG]
  have hlt := bysTo_lt (se := n) q2'.2 k hk hok
  generalize hc : cells[k] = c at *
  obtain ⟨a, b⟩ := c
  simp only at hat hbs
  by_cases r1 : withinB a 0 ((n : Int) - 1) = true
  case neg =>
    have r1' : withinB a 0 ((n : Int) - 1) = false := by simpa using r1
    have hf := hfail (by rw [hat, r1']; rfl)
    simp -dsimp [hk1, hc, rowC, ws, r1', hf]
    repeat' (first | omega | (simp -dsimp [E30, ri, cellp, ints, hk1, hc, rowC, ws, r1', hf]) | (refine Also.intro ?_ fun _ => ?_) | (refine Hold.intro fun _ => ?_) | (refine And.intro ?_ ?_))
  by_cases r2 : withinB b 0 (ge - 1) = true
  case neg =>
    have r2' : withinB b 0 (ge - 1) = false := by simpa using r2
    have hf := hfail (by rw [hat, r1, r2']; rfl)
    simp -dsimp [hk1, hc, rowC, ws, wg, r1, r2', hf]
    repeat' (first | omega | (simp -dsimp [E30, ri, cellp, ints, hk1, hc, rowC, ws, wg, r1, r2', hf]) | (refine Also.intro ?_ fun _ => ?_) | (refine Hold.intro fun _ => ?_) | (refine And.intro ?_ ?_))
  rw [r1, r2, Bool.true_and, Bool.true_and] at hat
  have r1' : 0 ≤ a ∧ a ≤ (n : Int) - 1 := by simpa [withinB] using r1
  have r2' : 0 ≤ b ∧ b ≤ ge - 1 := by simpa [withinB] using r2
  obtain ⟨a, rfl⟩ := Int.eq_ofNat_of_zero_le r1'.1
  obtain ⟨b, rfl⟩ := Int.eq_ofNat_of_zero_le r2'.1
  have h1 := bit_shl b (by omega)
  rw [Int.toNat_natCast] at hbl
  generalize bysTo n cells k = l at *
  have ha : a < l.length := by omega
  have hx := hlt l[a] (List.getElem_mem ha)
  have hp : pw b < 9223372036854775808 := by
    have : 2 ^ b < 2 ^ 62 := Nat.pow_lt_pow_right (by decide) (by omega)
    unfold pw; omega
  have h3 := bit_or (a := l[a]) (b := pw b) (by omega) hp
  have hset : (l.map rn).set a [.int .i64 (orN l[a] (pw b) : Int)] = (stepB l ((a : Int), (b : Int))).map rn := by
    have : l.getD a 0 = l[a] := by simp [List.getD, List.getElem?_eq_getElem ha]
    rw [stepB, Int.toNat_natCast, Int.toNat_natCast, this, List.map_set]
    rfl
  have han : a < n := by omega
  have hnl : n = l.length := hbl.symm
  by_cases hk0 : k = 0
  · subst hk0
    simp at hat
    simp -dsimp [hk1, hc, rowC, ws, wg, r1, r2, h1]
    repeat' (first | omega | (simp -dsimp [E30, ri, cellp, ints, hk1, hc, rowC, ws, wg, r1, r2, h1, h3, ha, hbl, han, hset, w1, rn, -List.map_set]) | (refine Also.intro ?_ fun _ => ?_) | (refine Hold.intro fun _ => ?_) | (refine And.intro ?_ ?_))
    simp only [Nat.zero_add] at hbs hs
    refine ⟨1, tle_chain rfl ?_, (by (try simp -dsimp only [hpush_noH, hpush_hps, hps_over]); refine hle_hps ?_; simp -dsimp [allK, hbs]; repeat' (first | (refine And.intro ?_ ?_) | (refine sLe.same ?_ ?_ <;> (simp; done)) | (refine sLe.clear ?_ ?_ <;> (simp; done)) | (refine sLe.drop 1 ?_ ?_ ?_ <;> (simp; done)))), ⟨hk1, by rw [hs, hok, hat]; rfl⟩, by omega⟩
    simp [okAll, okv]
    exact wrap_id (by omega) (by omega)
  have hk2 : k - 1 < cells.length := by omega
  have hkp : 0 < k := by omega
  have wk : IntKind.wrap .i64 ((k : Int) - 1) = (k - 1 : Nat) := by rw [wrap_id (by omega) (by omega)]; omega
  have eP : cells.getD (k - 1) (0, 0) = cells[k - 1] := by simp [List.getD, List.getElem?_eq_getElem hk2]
  rw [eP] at hat
  generalize hpc : cells[k - 1] = p at *
  obtain ⟨pa, pb⟩ := p
  simp only [show (k == 0) = false by simpa using hk0, Bool.false_or] at hat
  by_cases hcmp : cmpL [pa, pb] [(a : Int), (b : Int)] < 0
  · have hcm' : ¬ 0 ≤ cmpL [pa, pb] [(a : Int), (b : Int)] := by omega
    simp only [hcmp, decide_true] at hat
    simp -dsimp [hk1, hc, hpc, rowC, ws, wg, r1, r2, h1]
    repeat' (first | omega | (simp -dsimp [E30, ri, cellp, ints, hk1, hkp, hc, hpc, hk2, rowC, ws, wg, r1, r2, h1, h3, ha, hbl, han, hset, w1, wk, hcm', rn, -List.map_set]) | (refine Also.intro ?_ fun _ => ?_) | (refine Hold.intro fun _ => ?_) | (refine And.intro ?_ ?_))
    refine ⟨k + 1, tle_chain rfl ?_, (by (try simp -dsimp only [hpush_noH, hpush_hps, hps_over]); refine hle_hps ?_; simp -dsimp [allK, hbs]; repeat' (first | (refine And.intro ?_ ?_) | (refine sLe.same ?_ ?_ <;> (simp; done)) | (refine sLe.clear ?_ ?_ <;> (simp; done)) | (refine sLe.drop 1 ?_ ?_ ?_ <;> (simp; done)))), ⟨hk1, by rw [hs, hok, hat]; rfl⟩, by omega⟩
    simp [okAll, okv]
  · have hcm' : 0 ≤ cmpL [pa, pb] [(a : Int), (b : Int)] := by omega
    simp only [hcmp, decide_false] at hat
    have hf := hfail hat
    simp -dsimp [hk1, hc, hpc, rowC, ws, wg, r1, r2, h1]
    repeat' (first | omega | (simp -dsimp [E30, ri, cellp, ints, hk1, hkp, hc, hpc, hk2, rowC, ws, wg, r1, r2, h1, h3, ha, hbl, han, hset, w1, wk, hcm', hf, rn, -List.map_set]) | (refine Also.intro ?_ fun _ => ?_) | (refine Hold.intro fun _ => ?_) | (refine And.intro ?_ ?_))
theorem ok30 : FnOK Try.prog 30 (.pure newBoxS) := pure_fn (E := E30) rfl (.cons ok24 (.cons ok35 .nil)) (ok := []) (fn := Try.f30) (by kernel_rfl) (by kernel_rfl) (by kernel_rfl) (by kernel_rfl) rfl (fun _ _ => by simp) b30

/-! Explain -/
def explR (se ge : Int) (cells : List (Int × Int)) : List Int × List Int × Int := if okCells se ge cells then ((minX (expN (bysN se cells) se.toNat)).1, (minX (expN (bysN se cells) se.toNat)).2, 0) else ([], [], 1)
theorem expN_pos (b : List Nat) (n : Nat) : 0 < (expN b n).length := by
  have : ∀ k, 0 < (expTo b (k + 1)).length := by
    intro k
    rw [expTo_succ]
    unfold stepE
    simp only
    split
    · simp
    · split
      · simp
      · split <;> simp
  have h : 0 < 2 ^ n := Nat.two_pow_pos n
  obtain ⟨m, hm⟩ : ∃ m, 2 ^ n = m + 1 := ⟨2 ^ n - 1, by omega⟩
  unfold expN
  rw [hm]; exact this m
theorem okCells_facts {se ge : Int} {cells : List (Int × Int)} (h : okCells se ge cells = true) : 1 ≤ se ∧ se ≤ 8 ∧ (bysN se cells).length = se.toNat ∧ ∀ x ∈ bysN se cells, x < 2 ^ 12 := by
  simp only [okCells, Bool.and_eq_true, withinB, decide_eq_true_eq] at h
  exact ⟨h.1.1.1, h.1.1.2, bysTo_length _ _ _, bysTo_lt h.1.2.2 _ (Nat.le_refl _) h.2⟩
abbrev ExplainS : PSpec := { newBoxS with res := fun d => .tup [ints (explR d.1 d.2.1 d.2.2).1, ints (explR d.1 d.2.1 d.2.2).2.1, .int .i64 (explR d.1 d.2.1 d.2.2).2.2] }
noncomputable abbrev E19 : Env := { P := Try.prog, fn := tbl [(30, .pure newBoxS), (32, .pure explS), (31, .pure minS)], own := [], key := 1900, nt := 28 }
theorem b19 : PureBody E19 [] Try.f19 ExplainS := by
  refine pb ?_
  rintro ⟨se, ge, cells⟩ p1
  simp only at p1
  by_cases hv : okCells se ge cells = true
  · obtain ⟨q1, q2, q3, q4⟩ := okCells_facts hv
    have q4' : ∀ x ∈ bysN se cells, x < 4096 := q4
    have h1 := expN_pos (bysN se cells) se.toNat
    have h2 : (expN (bysN se cells) se.toNat).length ≤ 1000000 := by
      have h := expTo_len (bysN se cells) (2 ^ se.toNat)
      have : 2 ^ se.toNat ≤ 2 ^ 12 := Nat.pow_le_pow_right (by decide) (by omega)
      unfold expN; omega
    have h3 : ∀ x ∈ expN (bysN se cells) se.toNat, x.1.length ≤ 1000000 := fun x hx => by
      have := (expTo_mem (bysN se cells) _ x hx).1
      omega
    have q5 : (bysN se cells).length ≤ 12 := by omega
    have q6 : se ≤ 12 := by omega
    simp -dsimp [Try.f19, E19, hv, boxV, boxOf]
    have h3' : ∀ (a b : List Int), (a, b) ∈ expN (bysN se cells) se.toNat → a.length ≤ 1000000 := fun a b h => h3 (a, b) h
    repeat' (first | omega | (simp -dsimp [E19, ri, cellp, ints, hv, p1, boxV, boxOf, q1, q2, q5, q6, q4', h1, h2, explR, exV]) | (refine Also.intro ?_ fun _ => ?_) | (refine Hold.intro fun _ => ?_) | (refine And.intro ?_ ?_))
  · have hv' : okCells se ge cells = false := by simpa using hv
    simp -dsimp [Try.f19, E19, hv']
    repeat' (first | omega | (simp -dsimp [E19, ri, cellp, ints, hv', p1, explR]) | (refine Also.intro ?_ fun _ => ?_) | (refine Hold.intro fun _ => ?_) | (refine And.intro ?_ ?_))
theorem ok19 : FnOK Try.prog 19 (.pure ExplainS) := pure_fn (E := E19) rfl (.cons ok30 (.cons ok32 (.cons ok31 .nil))) (ok := []) (fn := Try.f19) (by kernel_rfl) (by kernel_rfl) (by kernel_rfl) (by kernel_rfl) rfl (fun _ _ => by simp) b19
abbrev sameS : PSpec := { dom := List Int × List Int, enc := fun d => [ints d.1, ints d.2], dec := fun l => ((l.getD 0 .top).toInts, (l.getD 1 .top).toInts), pre := fun d => d.1.length ≤ 9223372036854775807 ∧ d.2.length ≤ 9223372036854775807, res := fun d => .bool (decide (d.1 = d.2)) }
noncomputable abbrev E20 : Env := { P := Try.prog, fn := tbl [], own := [], key := 2000, nt := 26 }
theorem b20 : PureBody E20 [] Try.f20 sameS := by
  refine pb ?_
  rintro ⟨a, b⟩ ⟨p1, p2⟩
  simp only at p1 p2
  by_cases hl : a.length = b.length
  case neg =>
    have hne : ¬ a = b := fun e => hl (by rw [e])
    have hl' : ¬ (a.length : Int) = b.length := by omega
    simp -dsimp [Try.f20, E20, ints, hl']
    repeat' (first | omega | (simp -dsimp [E20, ri, cellp, ints, hl', hne]) | (refine Also.intro ?_ fun _ => ?_) | (refine Hold.intro fun _ => ?_) | (refine And.intro ?_ ?_))
  have hl' : (a.length : Int) = b.length := by omega
  simp -dsimp [Try.f20, E20, ints, hl']
  refine awp_loop [11, 12, 13, 14, 17, 18, 19, 20, 21, 22, 23, 24, 25, 4, 15, 16, 5]
    (fun k : { k : Nat // k ≤ a.length ∧ ∀ i (h1 : i < a.length) (h2 : i < b.length), i < k → a[i] = b[i] } => [(5, (true, .int .i64 (k.1 : Nat)))])
    (fun k => noH) (fun k => a.length - k.1) ⟨0, by omega, fun _ _ _ h => by omega⟩ ?_ (HLe.refl _) ?_
  · simp [okAll, okv]
  rintro ⟨k, hk, he⟩
  simp only
  by_cases hk1 : k < a.length
  · have hk2 : k < b.length := by omega
    have w1 : IntKind.wrap .i64 ((k : Int) + 1) = (k + 1 : Nat) := wrap_id (by omega) (by omega)
    by_cases hx : a[k] = b[k]
    · simp -dsimp [hk1, hk2, hx, ri]
      repeat' (first | omega | (simp -dsimp [E20, ri, cellp, ints, hk1, hk2, hx, w1]) | (refine Also.intro ?_ fun _ => ?_) | (refine Hold.intro fun _ => ?_) | (refine And.intro ?_ ?_))
      refine ⟨k + 1, tle_chain rfl ?_, HLe.refl _, ⟨hk1, fun i h1 h2 hi => ?_⟩, by omega⟩
      · simp [okAll, okv]
      · by_cases e : i = k
        · subst e; exact hx
        · exact he i h1 h2 (by omega)
    · have hne : ¬ a = b := fun e => hx (by simp [e])
      simp -dsimp [hk1, hk2, hx, ri]
      repeat' (first | omega | (simp -dsimp [E20, ri, cellp, ints, hk1, hk2, hx, w1, hne]) | (refine Also.intro ?_ fun _ => ?_) | (refine Hold.intro fun _ => ?_) | (refine And.intro ?_ ?_))
  · have hkb : ¬ k < b.length := by omega
    have heq : a = b := List.ext_getElem hl fun i h1 h2 => he i h1 h2 (by omega)
    simp -dsimp [hk1, hkb]
    repeat' (first | omega | (simp -dsimp [E20, ri, cellp, ints, hk1, hkb, heq]) | (refine Also.intro ?_ fun _ => ?_) | (refine Hold.intro fun _ => ?_) | (refine And.intro ?_ ?_))
theorem ok20 : FnOK Try.prog 20 (.pure sameS) := pure_fn (E := E20) rfl LOK.nil (ok := []) (fn := Try.f20) (by kernel_rfl) (by kernel_rfl) (by kernel_rfl) (by kernel_rfl) rfl (fun _ _ => by simp) b20
abbrev worksS : PSpec := { dom := Unit, enc := fun _ => [], dec := fun _ => (), pre := fun _ => True, res := fun _ => .bool true }
theorem works1 : validB [3, 5, 4, 6] = true ∧ lowN (chZ [3, 5, 4, 6]).1 (chZ [3, 5, 4, 6]).2 = 1 ∧ lowD (chZ [3, 5, 4, 6]).1 (chZ [3, 5, 4, 6]).2 = 6 := by decide +kernel
theorem works2 : explR 3 3 [(0, 0), (0, 1), (0, 2), (1, 1), (2, 1)] = ([0], [1], 0) := by decide +kernel
noncomputable abbrev E9 : Env := { P := Try.prog, fn := tbl [(18, .pure ChanceS), (19, .pure ExplainS), (20, .pure sameS)], own := [], key := 900, nt := 48 }
theorem b9 : PureBody E9 [] Try.f9 worksS := by
  refine pb ?_
  rintro ⟨⟩ _
  obtain ⟨k1, k2, k3⟩ := works1
  have k4 := works2
  have k5 : V.toCells (V.sl 2 [[V.int IntKind.i64 0, V.int IntKind.i64 0], [V.int IntKind.i64 0, V.int IntKind.i64 1], [V.int IntKind.i64 0, V.int IntKind.i64 2], [V.int IntKind.i64 1, V.int IntKind.i64 1], [V.int IntKind.i64 2, V.int IntKind.i64 1]]) = [(0, 0), (0, 1), (0, 2), (1, 1), (2, 1)] := rfl
  simp -dsimp [Try.f9, E9]
  repeat' (first | omega | (simp -dsimp [E9, ri, cellp, ints, k1, k2, k3, k4, k5, rowC]) | (refine Also.intro ?_ fun _ => ?_) | (refine Hold.intro fun _ => ?_) | (refine And.intro ?_ ?_))
theorem ok9 : FnOK Try.prog 9 (.pure worksS) := pure_fn (E := E9) rfl (.cons ok18 (.cons ok19 (.cons ok20 .nil))) (ok := []) (fn := Try.f9) (by kernel_rfl) (by kernel_rfl) (by kernel_rfl) (by kernel_rfl) rfl (fun _ _ => by simp) b9
end Go.Sx


