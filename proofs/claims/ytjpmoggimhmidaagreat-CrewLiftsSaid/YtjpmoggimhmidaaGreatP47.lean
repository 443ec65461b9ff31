/- A part of a proof; no conditions. -/
import Derived.Test.YtjpmoggimhmidaaGreatP46
import Derived.Test.YtjpmoggimhmidaaGreatP40
set_option linter.unusedSimpArgs false
set_option linter.unusedVariables false
set_option linter.unusedSectionVars false
section
/- Crew: Why, Until. No conditions. -/
set_option linter.unusedSimpArgs false
set_option linter.unusedSectionVars false
set_option maxRecDepth 100000
set_option maxHeartbeats 2000000
namespace Go.Sx
open Go.Proofs
attribute [local irreducible] HLe

noncomputable def whyO (r : Ro) (l : List Du) (n : Int) (c : Cl) : List Int × Int :=
  if chk2W srtD r l (withinB n 0 (r.ppl.length - 1) && callW c) = 0 then (whyW srtD r l n c, 0) else ([], chk2W srtD r l (withinB n 0 (r.ppl.length - 1) && callW c))
structure WyP (d : Ro × List Du × Int × Cl) : Prop where
  p : d.1.ppl.length ≤ 1000000
  n : d.2.1.length ≤ 1000000
noncomputable abbrev WhyS : PSpec := mkP whE WyP fun d => .tup [ints (whyO d.1 d.2.1 d.2.2.1 d.2.2.2).1, .int .i64 (whyO d.1 d.2.1 d.2.2.1 d.2.2.2).2]
theorem chk2_zero {r : Ro} {l : List Du} {b : Bool} (h : chk2W srtD r l b = 0) : (chkEW srtD r l).2 = 0 ∧ b = true := by
  unfold chk2W at h
  split at h
  · split at h
    · exact ⟨by assumption, by assumption⟩
    · omega
  · exact absurd h (by assumption)

/-! until -/
@[simp] def utE (d : Ro × List Du × Int × Int) : List V := [.agg d.1.row, .sl 3 (d.2.1.map Du.row), .int .i64 d.2.2.1, .int .i64 d.2.2.2]
theorem utE_inj (a b : Ro × List Du × Int × Int) (h : utE a = utE b) : a = b := by
  obtain ⟨a1, a2, a3, a4⟩ := a; obtain ⟨b1, b2, b3, b4⟩ := b
  simp only [utE, List.cons.injEq, V.agg.injEq, V.sl.injEq, V.int.injEq, true_and, and_true] at h
  rw [Ro.row_inj _ _ h.1, mapRow_inj Du.row_inj h.2.1, h.2.2.1, h.2.2.2]
theorem utE_dec (r : Ro) (l : List Du) (n a : Int) : decC utE [.agg [.sl 3 (r.ppl.map Pn.row), .int .i64 r.lng, .int .i64 r.rst, .int .i64 r.win, .int .i64 r.tot, .int .i64 r.rcn], .sl 3 (l.map Du.row), .int .i64 n, .int .i64 a] = (r, l, n, a) := decC_eq utE_inj (r, l, n, a)
def untN (r : Ro) (a : Int) : Nat := (min (a + r.lng) 2000 - a).toNat
noncomputable def untO (r : Ro) (l : List Du) (n a : Int) : Int × Int :=
  if chk2W srtD r l (withinB n 0 (r.ppl.length - 1) && withinB a 0 2000) = 0 then (if untW srtD r (own l n) n a (untN r a) = 0 then (0, 3) else (untW srtD r (own l n) n a (untN r a), 0)) else (0, chk2W srtD r l (withinB n 0 (r.ppl.length - 1) && withinB a 0 2000))
structure UtP (d : Ro × List Du × Int × Int) : Prop where
  p : d.1.ppl.length ≤ 1000000
  n : d.2.1.length ≤ 1000000
noncomputable abbrev untS : PSpec := mkP utE UtP fun d => .tup [.int .i64 (untO d.1 d.2.1 d.2.2.1 d.2.2.2).1, .int .i64 (untO d.1 d.2.1 d.2.2.1 d.2.2.2).2]
noncomputable abbrev E17 : Env := { P := Tryz.prog, fn := tbl [(28, .pure ckS), (29, .pure withinS), (30, .pure timeS), (31, .pure ofS), (32, .pure brkS)], own := [], key := 1700, nt := 52 }
theorem b17 : PureBody E17 [] Tryz.f17 untS := by
  refine pb ?_
  rintro ⟨r, l, n, a⟩ ⟨hp, hl⟩
  simp only at hp hl
  have hwp : IntKind.wrap .i64 ((r.ppl.length : Int) - 1) = r.ppl.length - 1 := wrap_id (by omega) (by omega)
  have hK : untO r l n a = if chk2W srtD r l (withinB n 0 (r.ppl.length - 1) && withinB a 0 2000) = 0 then (if untW srtD r (own l n) n a (untN r a) = 0 then (0, 3) else (untW srtD r (own l n) n a (untN r a), 0)) else (0, chk2W srtD r l (withinB n 0 (r.ppl.length - 1) && withinB a 0 2000)) := rfl
  have hCP : ChP (r, l) := ⟨hp, hl⟩
  cases h1 : withinB n 0 (r.ppl.length - 1) <;> rw [h1] at hK
  · generalize he : chk2W srtD r l (false && withinB a 0 2000) = e at hK
    have he1 : chk2W srtD r l false = e := he
    have h0 : ¬ e = 0 := fun h => by have := (chk2_zero (he1.trans h)).2; cases this
    have h0' : (e = 0) = False := eq_false h0
    rw [if_neg h0] at hK
    simp -dsimp [Tryz.f17, E17, Ro.row, pplV]
    repeat' (first | omega | (simp -dsimp [E17, ri, cellp, ints, Ro.row, pplV, ckE_dec, hCP, hwp, h1, he1, h0', hK]) | (refine Also.intro ?_ fun _ => ?_) | (refine Hold.intro fun _ => ?_) | (refine And.intro ?_ ?_))
  generalize h2 : withinB a 0 2000 = b at hK
  generalize he : chk2W srtD r l (true && b) = e at hK
  have he1 : chk2W srtD r l b = e := he
  by_cases h0 : e = 0
  case neg =>
    rw [if_neg h0] at hK
    have h0' : (e = 0) = False := eq_false h0
    simp -dsimp [Tryz.f17, E17, Ro.row, pplV]
    repeat' (first | omega | (simp -dsimp [E17, ri, cellp, ints, Ro.row, pplV, ckE_dec, hCP, hwp, h1, h2, he1, h0', hK]) | (refine Also.intro ?_ fun _ => ?_) | (refine Hold.intro fun _ => ?_) | (refine And.intro ?_ ?_))
  subst h0
  rw [if_pos rfl] at hK
  obtain ⟨z1, z2⟩ := chk2_zero he1
  subst z2
  have hn : 0 ≤ n ∧ n ≤ r.ppl.length - 1 := by simpa [withinB] using h1
  have ha : 0 ≤ a ∧ a ≤ 2000 := by simpa [withinB] using h2
  obtain ⟨hf, hl60, hbeg, _, _⟩ := WhP.of (c := ⟨0, 1, 0, false⟩) z1 hn (by decide)
  simp only at hf hl60 hbeg
  have hlng := hf.lng
  have hw1 : IntKind.wrap .i64 (a + r.lng) = a + r.lng := wrap_id (by omega) (by omega)
  obtain ⟨K, hKn⟩ : ∃ K : Nat, untN r a = K := ⟨_, rfl⟩
  have hKi : (K : Int) = min (a + r.lng) 2000 - a := by rw [← hKn, untN]; omega
  have hmin : (if (2000 : Int) < a + r.lng then 2000 else a + r.lng) = a + K := by
    split <;> omega
  rw [hKn] at hK
  simp -dsimp [Tryz.f17, E17, Ro.row, pplV]
  repeat' (first | omega | (simp -dsimp [E17, ri, cellp, ints, Ro.row, pplV, ckE_dec, ofE_dec, hCP, hwp, hl, h1, h2, he1, hw1, bkRow]) | (refine Also.intro ?_ fun _ => ?_) | (refine Hold.intro fun _ => ?_) | (refine And.intro ?_ ?_))
  refine awp_loop [38, 39, 40, 43, 44, 45, 46, 47, 48, 49, 50, 51, 8, 9, 41, 42, 12] (fun j : { j : Nat // j ≤ K ∧ untW srtD r (own l n) n a K = untW srtD r (own l n) n a j } => [(12, (true, .int .i64 (a + j.1)))]) (fun _ => hps [(1711, { base := 0, blks := [{ z := 7, els := [bkRow r (own l n)], ty := 83 }] }), (1704, { base := 0, blks := [{ z := 6, els := [r.row], ty := 57 }] })] noH) (fun j => j.1) ⟨K, Nat.le_refl _, rfl⟩ ?_ ?_ ?_
  · simp [okAll, okv, hmin]
  · exact (by (try simp -dsimp only [hpush_noH, hpush_hps, hps_over]); refine hle_hps ?_; simp -dsimp [allK, bkRow, Ro.row, pplV]; repeat' (first | (refine And.intro ?_ ?_) | (refine sLe.same ?_ ?_ <;> (simp; done)) | (refine sLe.clear ?_ ?_ <;> (first | (simp; done) | (simp; omega))) | (refine sLe.drop 1 ?_ ?_ ?_ <;> (simp; done))))
  rintro ⟨j, hj, hU⟩
  dsimp only
  rw [hU] at hK
  rcases j with _ | j
  · have hK : untO r l n a = (0, 3) := hK
    simp -dsimp []
    repeat' (first | omega | (simp -dsimp [E17, ri, cellp, ints, hK]) | (refine Also.intro ?_ fun _ => ?_) | (refine Hold.intro fun _ => ?_) | (refine And.intro ?_ ?_))
  have hBg : Beg (own l n ++ [⟨n, a, a + ((j + 1 : Nat) : Int)⟩]) := ⟨by have := own_len l n; simp; omega, fun x hx => by
    rcases List.mem_append.1 hx with h | h
    · exact hbeg x (own_mem.1 h).1
    · have := List.mem_singleton.1 h; subst this; simp only; omega⟩
  have hre := reE_dec r (own l n) ⟨n, a, a + ((j + 1 : Nat) : Int)⟩
  simp only at hre
  have hwj : IntKind.wrap .i64 (a + ((j + 1 : Nat) : Int) - 1) = a + (j : Nat) := by rw [wrap_id (by omega) (by omega)]; omega
  have hlt : a < a + ((j + 1 : Nat) : Int) := by omega
  have hU2 : untW srtD r (own l n) n a (j + 1) = if (brkW srtD r (own l n) ⟨n, a, a + (j + 1 : Nat)⟩).isEmpty = true then a + (j + 1 : Nat) else untW srtD r (own l n) n a j := rfl
  generalize hto : a + ((j + 1 : Nat) : Int) = to at *
  generalize hB : brkW srtD r (own l n) ⟨n, a, to⟩ = B at *
  cases B with
  | nil =>
    have hU2 : untW srtD r (own l n) n a (j + 1) = to := hU2
    rw [hU2, if_neg (by omega)] at hK
    simp -dsimp [hlt]
    repeat' (first | omega | (simp -dsimp [E17, ri, cellp, ints, hlt, Ro.row, pplV, bkRow, Du.row, hre, hBg, hB, hK]) | (refine Also.intro ?_ fun _ => ?_) | (refine Hold.intro fun _ => ?_) | (refine And.intro ?_ ?_))
  | cons x xs =>
    rw [if_neg (by simp)] at hU2
    have hne : ((xs.length : Int) + 1 = 0) = False := eq_false (by omega)
    simp -dsimp [hlt]
    repeat' (first | omega | (simp -dsimp [E17, ri, cellp, ints, hlt, Ro.row, pplV, bkRow, Du.row, hre, hBg, hB, hne, hwj]) | (refine Also.intro ?_ fun _ => ?_) | (refine Hold.intro fun _ => ?_) | (refine And.intro ?_ ?_))
    refine ⟨j, tle_chain rfl ?_, HLe.refl _, ⟨by omega, by rw [hU, hU2]⟩, by omega⟩
    simp [okAll, okv]
theorem ok17 : FnOK Tryz.prog 17 (.pure untS) := pure_fn (E := E17) rfl (.cons ok28 (.cons ok29 (.cons ok30 (.cons ok31 (.cons ok32 .nil))))) (ok := []) (fn := Tryz.f17) (by kernel_rfl) (by kernel_rfl) (by kernel_rfl) (by kernel_rfl) rfl (fun _ _ => by simp) b17
end Go.Sx
end
section
/- Crew: seatings, what they weigh. No conditions. -/
set_option linter.unusedSimpArgs false
set_option linter.unusedSectionVars false
set_option maxRecDepth 100000
set_option maxHeartbeats 2000000
namespace Go.Sx
open Go.Proofs
attribute [local irreducible] HLe

/-! a number in a list -/
def isN (n : Int) (x : Int) : Bool := decide (n = x)
@[simp] def inE (d : List Int × Int) : List V := [.sl 1 (d.1.map ri), .int .i64 d.2]
theorem inE_inj (a b : List Int × Int) (h : inE a = inE b) : a = b := by
  obtain ⟨a1, a2⟩ := a; obtain ⟨b1, b2⟩ := b
  simp only [inE, List.cons.injEq, V.sl.injEq, V.int.injEq, true_and, and_true] at h
  rw [map_ri_inj h.1, h.2]
theorem inE_dec (l : List Int) (n : Int) : decC inE [.sl 1 (l.map ri), .int .i64 n] = (l, n) := decC_eq inE_inj (l, n)
noncomputable abbrev inxS : PSpec := mkP inE (fun d => d.1.length ≤ 1000000) fun d => .int .i64 (idxZ d.1 (isN d.2))
noncomputable abbrev conS : PSpec := mkP inE (fun d => d.1.length ≤ 1000000) fun d => .bool (d.1.contains d.2)
noncomputable abbrev E88 : Env := { P := Tryz.prog, fn := tbl [], own := [], key := 8800, nt := 19 }
theorem b88 : PureBody E88 [] Tryz.f88 inxS := by
  refine pb ?_
  rintro ⟨l, n⟩ hl
  have hl : l.length ≤ 1000000 := hl
  simp -dsimp [Tryz.f88, E88]
  refine awp_loop [9, 10, 5, 11, 12, 13, 14, 15, 16, 17, 4, 18, 8] (fun k : { k : Nat // k ≤ l.length ∧ ∀ j (h : j < l.length), j < k → isN n l[j] = false } => [(8, (true, .int .i64 k.1))]) (fun _ => noH) (fun k => l.length - k.1) ⟨0, by omega, fun _ _ h => by omega⟩ ?_ (HLe.refl _) ?_
  · simp [okAll, okv]
  rintro ⟨k, hk, hall⟩
  by_cases hk1 : k < l.length
  · have hki : (k : Int) < l.length := by omega
    have wk : IntKind.wrap .i64 ((k : Int) + 1) = (k + 1 : Nat) := wrap_id (by omega) (by omega)
    obtain ⟨x, hx⟩ : ∃ x, l[k]? = some x := ⟨_, List.getElem?_eq_getElem hk1⟩
    have hx' : l[k] = x := (List.getElem?_eq_some_iff.1 hx).2
    by_cases hw : n = x
    · have hz := idxZ_at l (isN n) hk1 (by rw [hx']; simpa [isN] using hw) hall
      simp -dsimp [hki]
      repeat' (first | omega | (simp -dsimp [E88, ri, cellp, ints, hki, hk1, hl, hx, hx', hw, wk, hz]) | (refine Also.intro ?_ fun _ => ?_) | (refine Hold.intro fun _ => ?_) | (refine And.intro ?_ ?_))
      all_goals (subst hw; simp [hz])
    · have hw' : (n = x) = False := eq_false hw
      simp -dsimp [hki]
      repeat' (first | omega | (simp -dsimp [E88, ri, cellp, ints, hki, hk1, hl, hx, hx', hw', wk]) | (refine Also.intro ?_ fun _ => ?_) | (refine Hold.intro fun _ => ?_) | (refine And.intro ?_ ?_))
      refine ⟨k + 1, tle_chain rfl ?_, HLe.refl _, ⟨by omega, fun j h hj => ?_⟩, by omega⟩
      · simp [okAll, okv]
      · by_cases hjk : j = k
        · subst hjk; rw [hx']; simpa [isN] using hw
        · exact hall j h (by omega)
  · have hkn : ¬ (k : Int) < l.length := by omega
    have hz := idxZ_none l (isN n) (fun j h => hall j h (by omega))
    simp -dsimp [hkn]
    repeat' (first | omega | (simp -dsimp [E88, ri, cellp, ints, hkn, hz]) | (refine Also.intro ?_ fun _ => ?_) | (refine Hold.intro fun _ => ?_) | (refine And.intro ?_ ?_))
theorem ok88 : FnOK Tryz.prog 88 (.pure inxS) := pure_fn (E := E88) rfl LOK.nil (ok := []) (fn := Tryz.f88) (by kernel_rfl) (by kernel_rfl) (by kernel_rfl) (by kernel_rfl) rfl (fun _ _ => by simp) b88
theorem con_any (l : List Int) (n : Int) : l.contains n = decide (0 ≤ idxZ l (isN n)) := by
  have h : l.contains n = l.any (isN n) := by
    induction l with
    | nil => rfl
    | cons x l ih => rw [List.contains_cons, List.any_cons, ih, isN]; rfl
  rw [h, idxZ_any]
theorem mem_idx (l : List Int) (n : Int) : (n ∈ l) = (0 ≤ idxZ l (isN n)) := by
  have := con_any l n
  rw [Bool.eq_iff_iff] at this
  simpa using this
noncomputable abbrev E60 : Env := { P := Tryz.prog, fn := tbl [(88, .pure inxS)], own := [], key := 6000, nt := 9 }
theorem b60 : PureBody E60 [] Tryz.f60 conS := by
  refine pb ?_
  rintro ⟨l, n⟩ hl
  have hl : l.length ≤ 1000000 := hl
  have hz := mem_idx l n
  simp -dsimp [Tryz.f60, E60]
  repeat' (first | omega | (simp -dsimp [E60, ri, cellp, ints, hl, inE_dec, hz]) | (refine Also.intro ?_ fun _ => ?_) | (refine Hold.intro fun _ => ?_) | (refine And.intro ?_ ?_))
theorem ok60 : FnOK Tryz.prog 60 (.pure conS) := pure_fn (E := E60) rfl (.cons ok88 .nil) (ok := []) (fn := Tryz.f60) (by kernel_rfl) (by kernel_rfl) (by kernel_rfl) (by kernel_rfl) rfl (fun _ _ => by simp) b60

/-! a seat -/
@[simp] def siE (d : Ca × Gu × List Int × Int) : List V := [.agg d.1.row, .agg d.2.1.row, .sl 1 (d.2.2.1.map ri), .int .i64 d.2.2.2]
theorem siE_inj (a b : Ca × Gu × List Int × Int) (h : siE a = siE b) : a = b := by
  obtain ⟨a1, a2, a3, a4⟩ := a; obtain ⟨b1, b2, b3, b4⟩ := b
  simp only [siE, List.cons.injEq, V.sl.injEq, V.int.injEq, V.agg.injEq, true_and, and_true] at h
  rw [Ca.row_inj _ _ h.1, Gu.row_inj _ _ h.2.1, map_ri_inj h.2.2.1, h.2.2.2]
theorem siE_dec (c : Ca) (g : Gu) (l : List Int) (n : Int) : decC siE [.agg [.int .i64 c.emp, .int .i64 c.arm, .sl 2 (c.st.map Se.row), .int .i64 c.farm, .int .i64 c.low, .int .i64 c.high], .agg [.int .i64 g.w, .bool g.suit, .int .i64 g.dive, .bool g.able], .sl 1 (l.map ri), .int .i64 n] = (c, g, l, n) := decC_eq siE_inj (c, g, l, n)
structure SiP (d : Ca × Gu × List Int × Int) : Prop where
  c : d.1.st.length ≤ 1000000
  b : d.2.2.1.length ≤ 1000000
/-- A nil slice is a slice of no elements. -/
def nf2 : List V → List V
  | [a, b, .nil, d] => [a, b, .sl 1 [], d]
  | [a, b, .emp, d] => [a, b, .sl 1 [], d]
  | l => l
theorem nf2_nil (a b d : V) : nf2 [a, b, .nil, d] = [a, b, .sl 1 [], d] := rfl
theorem nf2_emp (a b d : V) : nf2 [a, b, .emp, d] = [a, b, .sl 1 [], d] := rfl
theorem nf2_sl (a b d : V) (z : Nat) (els : List (List V)) : nf2 [a, b, .sl z els, d] = [a, b, .sl z els, d] := rfl
noncomputable abbrev sitsS : PSpec := { dom := Ca × Gu × List Int × Int, enc := siE, dec := fun l => decC siE (nf2 l), pre := SiP, res := fun d => .bool (sitsB d.1 d.2.1 d.2.2.1 d.2.2.2) }
noncomputable abbrev E35 : Env := { P := Tryz.prog, fn := tbl [(29, .pure withinS), (60, .pure conS)], own := [], key := 3500, nt := 34 }
theorem b35 : PureBody E35 [] Tryz.f35 sitsS := by
  refine pb ?_
  rintro ⟨c, g, l, n⟩ ⟨hc, hl⟩
  simp only at hc hl
  have hS : sitsB c g l n = (withinB n 0 (c.st.length - 1) && !l.contains n && (g.able || !(c.st.getD n.toNat default).ex)) := rfl
  have hwp : IntKind.wrap .i64 ((c.st.length : Int) - 1) = c.st.length - 1 := wrap_id (by omega) (by omega)
  cases h1 : withinB n 0 (c.st.length - 1)
  · rw [h1] at hS
    simp -dsimp [Tryz.f35, E35, Ca.row, Gu.row]
    repeat' (first | omega | (simp -dsimp [E35, ri, cellp, ints, Ca.row, Gu.row, hwp, h1, hS]) | (refine Also.intro ?_ fun _ => ?_) | (refine Hold.intro fun _ => ?_) | (refine And.intro ?_ ?_))
  have hn : 0 ≤ n ∧ n ≤ c.st.length - 1 := by simpa [withinB] using h1
  obtain ⟨k, rfl⟩ : ∃ k : Nat, n = k := ⟨n.toNat, by omega⟩
  have hk : k < c.st.length := by omega
  obtain ⟨s, hs⟩ : ∃ s, c.st[k]? = some s := ⟨_, List.getElem?_eq_getElem hk⟩
  have hs' : c.st[k] = s := (List.getElem?_eq_some_iff.1 hs).2
  have hsd : c.st.getD (k : Int).toNat default = s := by simp [List.getD, hs]
  rw [h1, hsd] at hS
  have hki : (k : Int) < c.st.length := by omega
  cases h2 : l.contains (k : Int) <;> rw [h2] at hS
  · have h2 : ((k : Int) ∈ l) = False := eq_false (by simpa using h2)
    cases h3 : g.able <;> rw [h3] at hS
    · simp -dsimp [Tryz.f35, E35, Ca.row, Gu.row]
      repeat' (first | omega | (simp -dsimp [E35, ri, cellp, ints, Ca.row, Gu.row, Se.row, hwp, h1, h2, h3, hl, hs, hs', hk, hki, inE_dec, hS]) | (refine Also.intro ?_ fun _ => ?_) | (refine Hold.intro fun _ => ?_) | (refine And.intro ?_ ?_))
    · simp -dsimp [Tryz.f35, E35, Ca.row, Gu.row]
      repeat' (first | omega | (simp -dsimp [E35, ri, cellp, ints, Ca.row, Gu.row, Se.row, hwp, h1, h2, h3, hl, hs, hs', hk, hki, inE_dec, hS]) | (refine Also.intro ?_ fun _ => ?_) | (refine Hold.intro fun _ => ?_) | (refine And.intro ?_ ?_))
  · have h2 : ((k : Int) ∈ l) = True := eq_true (by simpa using h2)
    simp -dsimp [Tryz.f35, E35, Ca.row, Gu.row]
    repeat' (first | omega | (simp -dsimp [E35, ri, cellp, ints, Ca.row, Gu.row, Se.row, hwp, h1, h2, hl, hs, hs', hk, hki, inE_dec, hS]) | (refine Also.intro ?_ fun _ => ?_) | (refine Hold.intro fun _ => ?_) | (refine And.intro ?_ ?_))
theorem ok35 : FnOK Tryz.prog 35 (.pure sitsS) := pure_fn (E := E35) rfl (.cons ok29 (.cons ok60 .nil)) (ok := []) (fn := Tryz.f35) (by kernel_rfl) (by kernel_rfl) (by kernel_rfl) (by kernel_rfl) rfl (fun _ _ => by simp) b35

/-! a seating -/
@[simp] def rtE (d : Ca × List Gu × List Int) : List V := [.agg d.1.row, .sl 4 (d.2.1.map Gu.row), .sl 1 (d.2.2.map ri)]
theorem rtE_inj (a b : Ca × List Gu × List Int) (h : rtE a = rtE b) : a = b := by
  obtain ⟨a1, a2, a3⟩ := a; obtain ⟨b1, b2, b3⟩ := b
  simp only [rtE, List.cons.injEq, V.sl.injEq, V.agg.injEq, true_and, and_true] at h
  rw [Ca.row_inj _ _ h.1, mapRow_inj Gu.row_inj h.2.1, map_ri_inj h.2.2]
theorem rtE_dec (c : Ca) (l : List Gu) (s : List Int) : decC rtE [.agg [.int .i64 c.emp, .int .i64 c.arm, .sl 2 (c.st.map Se.row), .int .i64 c.farm, .int .i64 c.low, .int .i64 c.high], .sl 4 (l.map Gu.row), .sl 1 (s.map ri)] = (c, l, s) := decC_eq rtE_inj (c, l, s)
structure RtP (d : Ca × List Gu × List Int) : Prop where
  c : d.1.st.length ≤ 1000000
  l : d.2.1.length ≤ 1000000
  s : d.2.2.length ≤ 1000000
noncomputable abbrev rightS : PSpec := mkP rtE RtP fun d => .bool (rightB d.1 d.2.1 d.2.2)
theorem right_no {c : Ca} {l : List Gu} {s : List Int} (h : s.length ≠ l.length) : rightB c l s = false := by simp [rightB, h]
theorem right_bad {c : Ca} {l : List Gu} {s : List Int} {k : Nat} (hk : k < l.length) (h : seatOk c l s k = false) : rightB c l s = false := by
  have : (List.range l.length).all (fun i => seatOk c l s i) = false := by
    rw [List.all_eq_false]; exact ⟨k, by simpa using hk, by simp [h]⟩
  rw [rightB, this, Bool.and_false]
theorem right_ok {c : Ca} {l : List Gu} {s : List Int} (h0 : s.length = l.length) (h : ∀ j, j < l.length → seatOk c l s j = true) : rightB c l s = true := by
  have : (List.range l.length).all (fun i => seatOk c l s i) = true := by
    rw [List.all_eq_true]; exact fun j hj => h j (by simpa using hj)
  rw [rightB, this, decide_eq_true h0]; rfl

/-! a cabin, guests, fuel and a seating -/
@[simp] def pcE (d : Ca × List Gu × List Int × Sp) : List V := [.agg d.1.row, .sl 4 (d.2.1.map Gu.row), .sl 1 (d.2.2.1.map ri), .agg d.2.2.2.row]
theorem pcE_inj (a b : Ca × List Gu × List Int × Sp) (h : pcE a = pcE b) : a = b := by
  obtain ⟨a1, a2, a3, a4⟩ := a; obtain ⟨b1, b2, b3, b4⟩ := b
  simp only [pcE, List.cons.injEq, V.sl.injEq, V.agg.injEq, true_and, and_true] at h
  rw [Ca.row_inj _ _ h.1, mapRow_inj Gu.row_inj h.2.1, map_ri_inj h.2.2.1, Sp.row_inj _ _ h.2.2.2]
theorem pcE_dec (c : Ca) (l : List Gu) (s : List Int) (f : Sp) : decC pcE [.agg [.int .i64 c.emp, .int .i64 c.arm, .sl 2 (c.st.map Se.row), .int .i64 c.farm, .int .i64 c.low, .int .i64 c.high], .sl 4 (l.map Gu.row), .sl 1 (s.map ri), .agg [.int .i64 f.lo, .int .i64 f.hi]] = (c, l, s, f) := decC_eq pcE_inj (c, l, s, f)
structure PcP (d : Ca × List Gu × List Int × Sp) : Prop where
  c : d.1.st.length ≤ 900000
  l : d.2.1.length ≤ 1000000
  s : d.2.2.1.length ≤ 1000000
def seaE (c : Ca) (l : List Gu) (s : List Int) (f : Sp) : Int := if lodE c l f = 0 then (if rightB c l s = true then 0 else 1) else lodE c l f
noncomputable abbrev seaS : PSpec := mkP pcE PcP fun d => .int .i64 (seaE d.1 d.2.1 d.2.2.1 d.2.2.2)
end Go.Sx
end
