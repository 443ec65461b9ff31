/- A part of a proof; no conditions. -/
import Derived.Test.YtbdphjgpjhlpmaaSyHh
set_option linter.unusedSimpArgs false
set_option linter.unusedVariables false
set_option maxRecDepth 100000
set_option maxHeartbeats 1000000
namespace Go.Sx
open Go.Proofs

/-! comparing -/
def cmpL : List Int → List Int → Int
  | [], [] => 0
  | [], _ :: _ => -1
  | _ :: _, [] => 1
  | x :: a, y :: b => if cmpZ x y ≠ 0 then cmpZ x y else cmpL a b
theorem cmpL_bound : ∀ a b, -1 ≤ cmpL a b ∧ cmpL a b ≤ 1
  | [], [] => by simp [cmpL]
  | [], _ :: _ => by simp [cmpL]
  | _ :: _, [] => by simp [cmpL]
  | x :: a, y :: b => by
    simp only [cmpL]
    split
    · exact cmp_bound x y
    · exact cmpL_bound a b
abbrev cmpLS : PSpec := { dom := List Int × List Int, enc := fun d => [ints d.1, ints d.2], dec := fun l => ((l.getD 0 .top).toInts, (l.getD 1 .top).toInts), pre := fun d => d.1.length ≤ 1000000 ∧ d.2.length ≤ 1000000, res := fun d => .int .i64 (cmpL d.1 d.2) }
noncomputable abbrev E35 : Env := { P := Try.prog, fn := tbl [(58, .pure cmpS)], own := [], key := 3500, nt := 36 }
theorem b35 : PureBody E35 [] Try.f35 cmpLS := by
  refine pb ?_
  rintro ⟨a, b⟩ ⟨p1, p2⟩
  simp only at p1 p2
  simp -dsimp [Try.f35, E35, ints]
  refine awp_loop [12, 13, 14, 15, 5, 6, 16, 17, 18, 19, 4, 20, 21, 22, 23, 7, 24, 25, 26, 8, 27, 28, 29, 30, 11]
    (fun k : { k : Nat // k ≤ a.length ∧ k ≤ b.length ∧ cmpL (a.drop k) (b.drop k) = cmpL a b } => [(11, (true, .int .i64 (k.1 : Nat)))])
    (fun k => noH) (fun k => a.length - k.1) ⟨0, by omega, by omega, rfl⟩ ?_ (HLe.refl _) ?_
  · simp [okAll, okv]
  rintro ⟨k, hk, hkb, he⟩
  have w1 : IntKind.wrap .i64 ((k : Int) + 1) = (k + 1 : Nat) := wrap_id (by omega) (by omega)
  by_cases hk1 : k < a.length
  · by_cases hk2 : k < b.length
    · rw [List.drop_eq_getElem_cons hk1, List.drop_eq_getElem_cons hk2, cmpL] at he
      by_cases hc : cmpZ a[k] b[k] = 0
      · rw [if_neg (by simpa using hc)] at he
        have hkk : ¬ b.length ≤ k := by omega
        simp -dsimp [hk1, hk2, hkk, ri, hc]
        repeat' (first | omega | (simp -dsimp [E35, ri, cellp, ints, hk1, hk2, hkk, hc, w1]) | (refine Also.intro ?_ fun _ => ?_) | (refine Hold.intro fun _ => ?_) | (refine And.intro ?_ ?_))
        refine ⟨k + 1, tle_chain rfl ?_, HLe.refl _, ⟨hk1, hk2, he⟩, by omega⟩
        simp [okAll, okv]
      · rw [if_pos hc] at he
        have hkk : ¬ b.length ≤ k := by omega
        simp -dsimp [hk1, hk2, hkk, ri, hc]
        repeat' (first | omega | (simp -dsimp [E35, ri, cellp, ints, hk1, hk2, hkk, hc, w1, he]) | (refine Also.intro ?_ fun _ => ?_) | (refine Hold.intro fun _ => ?_) | (refine And.intro ?_ ?_))
    · have hkk : b.length ≤ k := by omega
      have hd : b.drop k = [] := List.drop_eq_nil_of_le hkk
      rw [List.drop_eq_getElem_cons hk1, hd, cmpL] at he
      simp -dsimp [hk1, hkk, ri]
      repeat' (first | omega | (simp -dsimp [E35, ri, cellp, ints, hk1, hkk, he]) | (refine Also.intro ?_ fun _ => ?_) | (refine Hold.intro fun _ => ?_) | (refine And.intro ?_ ?_))
  · have hka : k = a.length := by omega
    subst hka
    have hd : a.drop a.length = [] := List.drop_eq_nil_of_le (Nat.le_refl _)
    rw [hd] at he
    by_cases hk2 : a.length < b.length
    · rw [List.drop_eq_getElem_cons hk2, cmpL] at he
      simp -dsimp [hk2]
      repeat' (first | omega | (simp -dsimp [E35, ri, cellp, ints, hk2, he]) | (refine Also.intro ?_ fun _ => ?_) | (refine Hold.intro fun _ => ?_) | (refine And.intro ?_ ?_))
    · have hd2 : b.drop a.length = [] := List.drop_eq_nil_of_le (by omega)
      rw [hd2, cmpL] at he
      have hk3 : ¬ (a.length : Int) < b.length := by omega
      simp -dsimp [hk3]
      repeat' (first | omega | (simp -dsimp [E35, ri, cellp, ints, hk3, he]) | (refine Also.intro ?_ fun _ => ?_) | (refine Hold.intro fun _ => ?_) | (refine And.intro ?_ ?_))
theorem ok35 : FnOK Try.prog 35 (.pure cmpLS) := pure_fn (E := E35) rfl (.cons ok58 .nil) (ok := []) (fn := Try.f35) (by kernel_rfl) (by kernel_rfl) (by kernel_rfl) (by kernel_rfl) rfl (fun _ _ => by simp) b35
def firstNz (l : List Int) : Int := (l.find? fun x => x != 0).getD 0
abbrev orS : PSpec := { dom := List Int, enc := fun d => [ints d], dec := fun l => (l.getD 0 .top).toInts, pre := fun d => d.length ≤ 1000000, res := fun d => .int .i64 (firstNz d) }
noncomputable abbrev E34 : Env := { P := Try.prog, fn := tbl [], own := [], key := 3400, nt := 18 }
theorem b34 : PureBody E34 [] Try.f34 orS := by
  refine pb ?_
  rintro l p1
  simp -dsimp [Try.f34, E34, ints]
  refine awp_loop [9, 10, 11, 5, 12, 13, 14, 15, 2, 16, 8]
    (fun k : { k : Nat // k ≤ l.length ∧ firstNz (l.drop k) = firstNz l } => [(8, (true, .int .i64 (k.1 : Nat)))])
    (fun k => noH) (fun k => l.length - k.1) ⟨0, by omega, rfl⟩ ?_ (HLe.refl _) ?_
  · simp [okAll, okv]
  rintro ⟨k, hk, he⟩
  have w1 : k < l.length → IntKind.wrap .i64 ((k : Int) + 1) = (k + 1 : Nat) := fun h => wrap_id (by omega) (by have : l.length ≤ 1000000 := p1; omega)
  by_cases hk1 : k < l.length
  · rw [List.drop_eq_getElem_cons hk1, firstNz, List.find?_cons] at he
    by_cases hc : l[k] = 0
    · simp only [hc] at he
      simp -dsimp [hk1, ri, hc]
      repeat' (first | omega | (simp -dsimp [E34, ri, cellp, ints, hk1, hc, w1]) | (refine Also.intro ?_ fun _ => ?_) | (refine Hold.intro fun _ => ?_) | (refine And.intro ?_ ?_))
      refine ⟨k + 1, tle_chain rfl ?_, HLe.refl _, ⟨hk1, he⟩, by omega⟩
      simp [okAll, okv, w1 hk1]
    · have hc' : (l[k] != 0) = true := by simpa using hc
      simp only [hc'] at he
      simp -dsimp [hk1, ri, hc]
      repeat' (first | omega | (simp -dsimp [E34, ri, cellp, ints, hk1, hc, w1]) | (refine Also.intro ?_ fun _ => ?_) | (refine Hold.intro fun _ => ?_) | (refine And.intro ?_ ?_))
      simpa using he
  · have hka : k = l.length := by omega
    subst hka
    have hd : l.drop l.length = [] := List.drop_eq_nil_of_le (Nat.le_refl _)
    rw [hd] at he
    simp -dsimp
    repeat' (first | omega | (simp -dsimp [E34, ri, cellp, ints, he]) | (refine Also.intro ?_ fun _ => ?_) | (refine Hold.intro fun _ => ?_) | (refine And.intro ?_ ?_))
    simpa [firstNz] using he
theorem ok34 : FnOK Try.prog 34 (.pure orS) := pure_fn (E := E34) rfl LOK.nil (ok := []) (fn := Try.f34) (by kernel_rfl) (by kernel_rfl) (by kernel_rfl) (by kernel_rfl) rfl (fun _ _ => by simp) b34
abbrev Ex1 := List Int × List Int
def exV (x : Ex1) : V := .agg [ints x.1, ints x.2]
def exR (x : Ex1) : List V := [ints x.1, ints x.2]
def cmpX (x y : Ex1) : Int := if (x.1.length : Int) - y.1.length ≠ 0 then (x.1.length : Int) - y.1.length else cmpL x.1 y.1
def V.toEx (v : V) : Ex1 := ((v.cs.getD 0 .top).toInts, (v.cs.getD 1 .top).toInts)
abbrev cmpXS : PSpec := { dom := Ex1 × Ex1, enc := fun d => [exV d.1, exV d.2], dec := fun l => ((l.getD 0 .top).toEx, (l.getD 1 .top).toEx), pre := fun d => d.1.1.length ≤ 1000000 ∧ d.2.1.length ≤ 1000000, res := fun d => .int .i64 (cmpX d.1 d.2) }
theorem firstNz_two (a b : Int) : firstNz [a, b] = if a ≠ 0 then a else b := by
  by_cases h : a = 0
  · subst h
    by_cases h2 : b = 0
    · subst h2; simp [firstNz]
    · simp [firstNz, List.find?_cons, h2]
  · have : (a != 0) = true := by simpa using h
    simp [firstNz, List.find?_cons, this, h]
noncomputable abbrev E33 : Env := { P := Try.prog, fn := tbl [(35, .pure cmpLS), (34, .pure orS)], own := [], key := 3300, nt := 19 }
theorem b33 : PureBody E33 [] Try.f33 cmpXS := by
  refine pb ?_
  rintro ⟨⟨a, a2⟩, ⟨b, b2⟩⟩ ⟨p1, p2⟩
  simp only at p1 p2
  have w1 : IntKind.wrap .i64 ((a.length : Int) - b.length) = (a.length : Int) - b.length := wrap_id (by omega) (by omega)
  simp -dsimp [Try.f33, E33, exV, ints]
  repeat' (first | omega | (simp -dsimp [E33, ri, cellp, ints, w1, firstNz_two, cmpX]) | (refine Also.intro ?_ fun _ => ?_) | (refine Hold.intro fun _ => ?_) | (refine And.intro ?_ ?_))
theorem ok33 : FnOK Try.prog 33 (.pure cmpXS) := pure_fn (E := E33) rfl (.cons ok35 (.cons ok34 .nil)) (ok := []) (fn := Try.f33) (by kernel_rfl) (by kernel_rfl) (by kernel_rfl) (by kernel_rfl) rfl (fun _ _ => by simp) b33
def minTo (l : List Ex1) (k : Nat) : Ex1 := (List.range k).foldl (fun m i => if cmpX (l.getD i ([], [])) m < 0 then l.getD i ([], []) else m) (l.getD 0 ([], []))
theorem minTo_succ (l : List Ex1) (k : Nat) : minTo l (k + 1) = if cmpX (l.getD k ([], [])) (minTo l k) < 0 then l.getD k ([], []) else minTo l k := by
  simp [minTo, List.range_succ, List.foldl_append]
def minX (l : List Ex1) : Ex1 := minTo l l.length
def V.toExs (v : V) : List Ex1 := v.rows.map fun r => ((r.getD 0 .top).toInts, (r.getD 1 .top).toInts)
@[simp] theorem toExs_sl (l : List Ex1) : (V.sl 2 (l.map exR)).toExs = l := by
  simp only [V.toExs, V.rows, List.map_map]
  have : ((fun r : List V => ((r.getD 0 .top).toInts, (r.getD 1 .top).toInts)) ∘ exR) = id := by
    funext x; simp [exR, List.getD, ints]
  rw [this, List.map_id]
theorem minTo_mem {l : List Ex1} (h : 0 < l.length) : ∀ k, k ≤ l.length → minTo l k ∈ l := by
  intro k
  have e0 : l.getD 0 ([], []) ∈ l := by simp [List.getD, List.getElem?_eq_getElem h]
  induction k with
  | zero => intro _; exact e0
  | succ k ih =>
    intro hk
    rw [minTo_succ]
    split
    · have : k < l.length := hk
      simp [List.getD, List.getElem?_eq_getElem this]
    · exact ih (by omega)
abbrev minS : PSpec := { dom := List Ex1, enc := fun d => [.sl 2 (d.map exR), .fn 33 []], dec := fun l => (l.getD 0 .top).toExs, pre := fun d => 0 < d.length ∧ d.length ≤ 1000000 ∧ ∀ x ∈ d, x.1.length ≤ 1000000, res := fun d => exV (minX d) }
noncomputable abbrev E31 : Env := { P := Try.prog, fn := tbl [(33, .pure cmpXS)], own := [], key := 3100, nt := 33 }
theorem b31 : PureBody E31 [(7, ([3, 4], [[0, 1, 2, 3, 4, 5, 6, 7]]))] Try.f31 minS := by
  refine pb ?_
  rintro l ⟨p1, p2, p3⟩
  have hne : ¬ l = [] := by intro e; subst e; simp at p1
  have hl1 : ¬ l.length < 1 := by omega
  have e0 : l.getD 0 ([], []) = l[0] := by simp [List.getD, List.getElem?_eq_getElem p1]
  have hc0 : ∀ x, cmpX x x = 0 := by
    intro x
    have hz : ∀ a : Int, cmpZ a a = 0 := fun a => by simp [cmpZ]
    have : ∀ a, cmpL a a = 0 := by
      intro a
      induction a with
      | nil => rfl
      | cons x a ih => simp [cmpL, hz, ih]
    simp [cmpX, this]
  have hm1 : minTo l 1 = l[0] := by
    rw [minTo_succ, e0, show minTo l 0 = l[0] from e0, hc0]; simp
  simp -dsimp [Try.f31, E31, hl1, hne, p1]
  repeat' (first | omega | (simp -dsimp [E31, ri, cellp, ints, hl1, hne, p1, exR]) | (refine Also.intro ?_ fun _ => ?_) | (refine Hold.intro fun _ => ?_) | (refine And.intro ?_ ?_))
  refine awp_loop [14, 15, 16, 17, 20, 21, 22, 23, 24, 25, 26, 27, 28, 29, 30, 31, 18, 19, 6]
    (fun k : Fin l.length => [(6, (true, .int .i64 (k.1 + 1 : Nat)))])
    (fun k => hps [(3105, { base := 0, blks := [{ z := 2, els := [exR (minTo l (k.1 + 1))], ty := 60 }] }), (3104, { base := 0, blks := [{ z := 2, els := [[.nil, .nil]], ty := 60 }] })] noH) (fun k => l.length - k.1) ⟨0, p1⟩ ?_ (HLe.of_eq (by simp [hm1, exR, ints])) ?_
  · simp [okAll, okv]
  rintro ⟨k, hk⟩
  have w1 : IntKind.wrap .i64 ((k : Int) + 1 + 1) = (k + 2 : Nat) := wrap_id (by omega) (by omega)
  have hl0 : l.length - 1 + 1 = l.length := by omega
  by_cases hk1 : k + 1 < l.length
  · have hs2 := minTo_succ l (k + 1)
    have eG : l.getD (k + 1) ([], []) = l[k + 1] := by simp [List.getD, List.getElem?_eq_getElem hk1]
    rw [eG] at hs2
    have hm := p3 _ (minTo_mem p1 (k + 1) (by omega))
    have hx := p3 _ (List.getElem_mem hk1)
    have hki : (k : Int) + 1 < l.length := by omega
    generalize minTo l (k + 1) = m at *
    generalize hxe : l[k + 1] = x at *
    obtain ⟨m1, m2⟩ := m
    obtain ⟨x1, x2⟩ := x
    simp only at hm hx
    by_cases hc : cmpX (x1, x2) (m1, m2) < 0
    · rw [if_pos hc] at hs2
      simp -dsimp [hk1, hki, hxe, exR, hc]
      repeat' (first | omega | (simp -dsimp [E31, ri, cellp, ints, hk1, hki, hxe, exR, exV, hc, hm, hx, w1, FreeAt, V.toEx]) | (refine Also.intro ?_ fun _ => ?_) | (refine Hold.intro fun _ => ?_) | (refine And.intro ?_ ?_))
      refine ⟨⟨k + 1, by omega⟩, tle_chain rfl ?_, HLe.of_eq (by simp [hs2, exR, ints]), by simp only; omega⟩
      simp [okAll, okv]
      omega
    · rw [if_neg hc] at hs2
      simp -dsimp [hk1, hki, hxe, exR, hc]
      repeat' (first | omega | (simp -dsimp [E31, ri, cellp, ints, hk1, hki, hxe, exR, exV, hc, hm, hx, w1, FreeAt, V.toEx]) | (refine Also.intro ?_ fun _ => ?_) | (refine Hold.intro fun _ => ?_) | (refine And.intro ?_ ?_))
      refine ⟨⟨k + 1, by omega⟩, tle_chain rfl ?_, HLe.of_eq (by simp [hs2, exR, ints]), by simp only; omega⟩
      simp [okAll, okv]
      omega
  · have hke : k + 1 = l.length := by omega
    have hki : ¬ (k : Int) + 1 < l.length := by omega
    simp -dsimp [hki, exV, exR, minX, hke]
    repeat' (first | omega | (simp -dsimp [E31, ri, cellp, ints, hki, exV, exR, minX, hke]) | (refine Also.intro ?_ fun _ => ?_) | (refine Hold.intro fun _ => ?_) | (refine And.intro ?_ ?_))
theorem ok31 : FnOK Try.prog 31 (.pure minS) := pure_fn (E := E31) rfl (.cons ok33 .nil) (ok := [(7, ([3, 4], [[0, 1, 2, 3, 4, 5, 6, 7]]))]) (fn := Try.f31) (by kernel_rfl) (by kernel_rfl) (by kernel_rfl) (by kernel_rfl) rfl (fun _ _ => by simp) b31

/-! explanations -/
def stepE (b : List Nat) (out : List Ex1) (loose : Nat) : List Ex1 :=
  let x : Ex1 := (natI (memN loose), natI (memN (wornN b loose)))
  match out with
  | [] => [x]
  | y :: out => if x.1.length + x.2.length > y.1.length + y.2.length then y :: out else if x.1.length + x.2.length < y.1.length + y.2.length then [x] else (y :: out) ++ [x]
def expTo (b : List Nat) (k : Nat) : List Ex1 := (List.range k).foldl (stepE b) []
theorem expTo_succ (b : List Nat) (k : Nat) : expTo b (k + 1) = stepE b (expTo b k) k := by
  simp [expTo, List.range_succ, List.foldl_append]
def expN (b : List Nat) (se : Nat) : List Ex1 := expTo b (2 ^ se)
theorem memN_len (s : Nat) : (memN s).length ≤ 62 := memTo_len s 62
theorem stepE_len (b : List Nat) (out : List Ex1) (loose : Nat) : (stepE b out loose).length ≤ out.length + 1 := by
  unfold stepE
  simp only
  split
  · simp
  · split
    · simp
    · split <;> simp
theorem expTo_len (b : List Nat) (k : Nat) : (expTo b k).length ≤ k := by
  induction k with
  | zero => simp [expTo]
  | succ k ih =>
    have := stepE_len b (expTo b k) k
    rw [expTo_succ]; omega
theorem stepE_mem (b : List Nat) (out : List Ex1) (loose : Nat) (h : ∀ x ∈ out, x.1.length ≤ 62 ∧ x.2.length ≤ 62) : ∀ x ∈ stepE b out loose, x.1.length ≤ 62 ∧ x.2.length ≤ 62 := by
  have h1 := memN_len loose
  have h2 := memN_len (wornN b loose)
  intro x hx
  unfold stepE at hx
  simp only at hx
  split at hx
  · simp only [List.mem_singleton] at hx
    subst hx; simp [h1, h2]
  · split at hx
    · exact h x hx
    · split at hx
      · simp only [List.mem_singleton] at hx
        subst hx; simp [h1, h2]
      · rcases List.mem_append.1 hx with hx | hx
        · exact h x hx
        · simp only [List.mem_singleton] at hx
          subst hx; simp [h1, h2]
theorem expTo_mem (b : List Nat) (k : Nat) : ∀ x ∈ expTo b k, x.1.length ≤ 62 ∧ x.2.length ≤ 62 := by
  induction k with
  | zero => simp [expTo]
  | succ k ih => rw [expTo_succ]; exact stepE_mem b _ _ ih
theorem room1 {n : Nat} (h : n ≤ 5000) : (n + 1) * 48 ≤ 140737488355328 := by omega
theorem room2 {n : Nat} (h : n ≤ 5000) : (n + 1 + 1) * 48 ≤ 140737488355328 := by omega
abbrev explS : PSpec := { dom := BoxD, enc := fun d => [boxV d], dec := fun l => (l.getD 0 .top).toBox, pre := fun d => 1 ≤ d.se ∧ d.se ≤ 12 ∧ d.bys.length ≤ 12 ∧ (∀ x ∈ d.bys, x < 2 ^ 12), res := fun d => .sl 2 ((expN d.bys d.se.toNat).map exR) }
noncomputable abbrev E32 : Env := { P := Try.prog, fn := tbl [(55, .pure membersS), (56, .pure wornS), (57, .pure sizeS)], own := [], key := 3200, nt := 52 }
theorem b32 : PureBody E32 [] Try.f32 explS := by
  refine pb ?_
  rintro ⟨se, ge, cells, l⟩ ⟨p1, p2, p3, p4⟩
  simp only at p1 p2 p3 p4
  obtain ⟨n, rfl⟩ := Int.eq_ofNat_of_zero_le (show 0 ≤ se by omega)
  have hn : n ≤ 12 := by omega
  have h2n : 2 ^ n ≤ 2 ^ 12 := Nat.pow_le_pow_right (by decide) hn
  have h1 : shlV .i64 1 (n : Int) = ((2 ^ n : Nat) : Int) := bit_shl n (by omega)
  have p5 : ∀ x ∈ l, x < 4096 := p4
  generalize hN : 2 ^ n = N at *
  simp -dsimp [Try.f32, E32, boxV, h1]
  refine awp_loop_g [(2, 3249, 2, 60)] rfl (by simp) [11, 12, 3, 13, 14, 15, 16, 17, 18, 19, 4, 21, 22, 23, 24, 25, 26, 27, 28, 29, 30, 31, 32, 20, 34, 35, 36, 37, 38, 39, 40, 41, 42, 43, 44, 45, 33, 2, 46, 47, 48, 49, 50, 10]
    (fun p : Fin (N + 1) × Nat => [(10, (true, .int .i64 (p.1.1 : Nat))), (2, (true, .bsl 3249 p.2 (expTo l p.1.1).length))])
    (fun p => hps [(3249, { base := p.2, blks := [{ z := 2, els := (expTo l p.1.1).map exR, ty := 60 }] }), (3204, { base := p.1.1, blks := [] })] noH) (fun p => N - p.1.1) (⟨0, by omega⟩, 0) ?_ (by simp -dsimp only [hpush_noH, hpush_hps, hps_over]; refine hle_hps ?_; simp -dsimp [allK, expTo]; repeat' (first | (refine And.intro ?_ ?_) | (refine sLe.same ?_ ?_ <;> (simp; done)) | (refine sLe.clear ?_ ?_ <;> (simp; done)) | (refine sLe.drop 1 ?_ ?_ ?_ <;> (simp; done)))) ?_
  · simp [okAll, okv, expTo]
  rintro ⟨⟨k, hk⟩, r⟩
  simp only
  by_cases hk1 : k < N
  · have hs := expTo_succ l k
    have hw := wornTo_lt p4 k l.length
    have hw2 : wornN l k < 4611686018427387904 := by unfold wornN; omega
    have hk2 : k < 4611686018427387904 := by omega
    have hk3 : k < 4096 := by omega
    have hw3 : wornN l k < 4096 := hw
    have hkN : (k : Int) < N := by omega
    have w1 : IntKind.wrap .i64 ((k : Int) + 1) = (k + 1 : Nat) := wrap_id (by omega) (by omega)
    have hol := expTo_len l k
    have hom := expTo_mem l k
    have n1 := memN_len k
    have n2 := memN_len (wornN l k)
    generalize expTo l k = o at *
    cases o with
    | nil =>
      simp -dsimp [hk1, hkN]
      repeat' (first | omega | (simp -dsimp [E32, ri, cellp, ints, hk1, hkN, hk2, hw2, hk3, hw3, w1, nats, boxV, p3, p5, exR]) | (refine Also.intro ?_ fun _ => ?_) | (refine Hold.intro fun _ => ?_) | (refine And.intro ?_ ?_))
      refine ⟨⟨k + 1, by omega⟩, r, tle_chain rfl ?_, (by simp -dsimp only [hpush_noH, hpush_hps, hps_over]; refine hle_hps ?_; simp -dsimp [allK, hs, stepE, exR, ints]; repeat' (first | (refine And.intro ?_ ?_) | (refine sLe.same ?_ ?_ <;> (simp; done)) | (refine sLe.clear ?_ ?_ <;> (simp; done)) | (refine sLe.drop 1 ?_ ?_ ?_ <;> (simp; done)))), by simp only; omega⟩
      simp [okAll, okv, hs, stepE]
    | cons y out =>
      obtain ⟨y1, y2⟩ := y
      have hy := hom (y1, y2) (by simp)
      have y1l : y1.length ≤ 1000000 := by have := hy.1; simp only at this; omega
      have y2l : y2.length ≤ 1000000 := by have := hy.2; simp only at this; omega
      have y1k : (memN k).length ≤ 1000000 := by omega
      have y2k : (memN (wornN l k)).length ≤ 1000000 := by omega
      simp only [stepE, natI_length] at hs
      have hlo : out.length ≤ 5000 := by simp only [List.length_cons] at hol; omega
      have hll := room1 hlo
      have hll2 := room2 hlo
      by_cases g1 : y1.length + y2.length < (memN k).length + (memN (wornN l k)).length
      · rw [if_pos g1] at hs
        have c1 : (y1.length : Int) + y2.length < (memN k).length + (memN (wornN l k)).length := by omega
        have c2 : ¬ ((memN k).length : Int) + (memN (wornN l k)).length < y1.length + y2.length := by omega
        simp -dsimp [hk1, hkN]
        repeat' (first | omega | (simp -dsimp [E32, ri, cellp, ints, hk1, hkN, hk2, hw2, hk3, hw3, w1, nats, boxV, p3, p5, exR, y1l, y2l, y1k, y2k, c1, c2, hll, hll2]) | (refine Also.intro ?_ fun _ => ?_) | (refine Hold.intro fun _ => ?_) | (refine And.intro ?_ ?_))
        refine ⟨⟨k + 1, by omega⟩, r, tle_chain rfl ?_, (by simp -dsimp only [hpush_noH, hpush_hps, hps_over]; refine hle_hps ?_; simp -dsimp [allK, hs, exR, ints]; repeat' (first | (refine And.intro ?_ ?_) | (refine sLe.same ?_ ?_ <;> (simp; done)) | (refine sLe.clear ?_ ?_ <;> (simp; done)) | (refine sLe.drop 1 ?_ ?_ ?_ <;> (simp; done)))), by simp only; omega⟩
        simp [okAll, okv, hs]
      · rw [if_neg g1] at hs
        have c1 : ¬ (y1.length : Int) + y2.length < (memN k).length + (memN (wornN l k)).length := by omega
        by_cases g2 : (memN k).length + (memN (wornN l k)).length < y1.length + y2.length
        · rw [if_pos g2] at hs
          have c2 : ((memN k).length : Int) + (memN (wornN l k)).length < y1.length + y2.length := by omega
          simp -dsimp [hk1, hkN]
          repeat' (first | omega | (simp -dsimp [E32, ri, cellp, ints, hk1, hkN, hk2, hw2, hk3, hw3, w1, nats, boxV, p3, p5, exR, y1l, y2l, y1k, y2k, c1, c2, hll, hll2]) | (refine Also.intro ?_ fun _ => ?_) | (refine Hold.intro fun _ => ?_) | (refine And.intro ?_ ?_))
          refine ⟨⟨k + 1, by omega⟩, r + 1, tle_chain rfl ?_, (by simp -dsimp only [hpush_noH, hpush_hps, hps_over]; refine hle_hps ?_; simp -dsimp [allK, hs, exR, ints]; repeat' (first | (refine And.intro ?_ ?_) | (refine sLe.same ?_ ?_ <;> (simp; done)) | (refine sLe.clear ?_ ?_ <;> (simp; done)) | (refine sLe.drop 1 ?_ ?_ ?_ <;> (simp; done)))), by simp only; omega⟩
          simp [okAll, okv, hs]
        · rw [if_neg g2] at hs
          have c2 : ¬ ((memN k).length : Int) + (memN (wornN l k)).length < y1.length + y2.length := by omega
          simp -dsimp [hk1, hkN]
          repeat' (first | omega | (simp -dsimp [E32, ri, cellp, ints, hk1, hkN, hk2, hw2, hk3, hw3, w1, nats, boxV, p3, p5, exR, y1l, y2l, y1k, y2k, c1, c2, hll, hll2]) | (refine Also.intro ?_ fun _ => ?_) | (refine Hold.intro fun _ => ?_) | (refine And.intro ?_ ?_))
          refine ⟨⟨k + 1, by omega⟩, r, tle_chain rfl ?_, (by simp -dsimp only [hpush_noH, hpush_hps, hps_over]; refine hle_hps ?_; simp -dsimp [allK, hs, exR, ints]; repeat' (first | (refine And.intro ?_ ?_) | (refine sLe.same ?_ ?_ <;> (simp; done)) | (refine sLe.clear ?_ ?_ <;> (simp; done)) | (refine sLe.drop 1 ?_ ?_ ?_ <;> (simp; done)))), by simp only; omega⟩
          simp [okAll, okv, hs]
  · have hke : k = N := by omega
    subst hke
    simp -dsimp [expN]
    repeat' (first | omega | (simp -dsimp [E32, ri, cellp, ints, expN, hN]) | (refine Also.intro ?_ fun _ => ?_) | (refine Hold.intro fun _ => ?_) | (refine And.intro ?_ ?_))
theorem ok32 : FnOK Try.prog 32 (.pure explS) := pure_fn (E := E32) rfl (.cons ok55 (.cons ok56 (.cons ok57 .nil))) (ok := []) (fn := Try.f32) (by kernel_rfl) (by kernel_rfl) (by kernel_rfl) (by kernel_rfl) rfl (fun _ _ => by simp) b32
end Go.Sx


