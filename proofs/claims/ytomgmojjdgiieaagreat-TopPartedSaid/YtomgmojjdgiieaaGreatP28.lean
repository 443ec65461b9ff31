/- A part of a proof; no conditions. -/
import Derived.Test.YtomgmojjdgiieaaGreatP26
import Derived.Test.YtomgmojjdgiieaaGreatP27
set_option linter.unusedSimpArgs false
set_option linter.unusedVariables false
set_option linter.unusedSectionVars false
section
/- Tables: Bound over a part of a box lies within Bound over the box (plain). No conditions. -/
set_option linter.unusedSimpArgs false
set_option linter.unusedSectionVars false
namespace Go.Sx.Tab
theorem cmpV_le {v w : Int × Int} (hv : Va v) (hw : Va w) (h : ¬ cmpV v w < 0) : w.1 * v.2 ≤ v.1 * w.2 := by
  obtain ⟨_, _, v3, _⟩ := hv
  obtain ⟨_, _, w3, _⟩ := hw
  unfold cmpV at h
  have e1 := Int.ediv_mul_le v.1 (show v.2 ≠ 0 by omega)
  have e2 := Int.lt_ediv_add_one_mul_self v.1 v3
  have f1 := Int.ediv_mul_le w.1 (show w.2 ≠ 0 by omega)
  have f2 := Int.lt_ediv_add_one_mul_self w.1 w3
  generalize hq : v.1 / v.2 = q at *
  generalize hp : w.1 / w.2 = p at *
  split at h
  · have e : q = p := by omega
    subst e
    have : (v.1 - q * v.2) * w.2 - (w.1 - q * w.2) * v.2 = v.1 * w.2 - w.1 * v.2 := by grind
    omega
  · have hqp : p + 1 ≤ q := by omega
    have a1 : w.1 * v.2 ≤ (p + 1) * w.2 * v.2 := Int.mul_le_mul_of_nonneg_right (by omega) (by omega)
    have a2 : (p + 1) * w.2 * v.2 ≤ q * (w.2 * v.2) := by rw [Int.mul_assoc]; exact Int.mul_le_mul_of_nonneg_right hqp (Int.mul_nonneg (by omega) (by omega))
    have a3 : q * v.2 * w.2 ≤ v.1 * w.2 := Int.mul_le_mul_of_nonneg_right e1 (by omega)
    have a4 : q * (w.2 * v.2) = q * v.2 * w.2 := by grind
    omega
theorem cmpV_ge {v w : Int × Int} (hv : Va v) (hw : Va w) (h : ¬ 0 < cmpV v w) : v.1 * w.2 ≤ w.1 * v.2 := by
  obtain ⟨_, _, v3, _⟩ := hv
  obtain ⟨_, _, w3, _⟩ := hw
  unfold cmpV at h
  have e1 := Int.ediv_mul_le v.1 (show v.2 ≠ 0 by omega)
  have e2 := Int.lt_ediv_add_one_mul_self v.1 v3
  have f1 := Int.ediv_mul_le w.1 (show w.2 ≠ 0 by omega)
  have f2 := Int.lt_ediv_add_one_mul_self w.1 w3
  generalize hq : v.1 / v.2 = q at *
  generalize hp : w.1 / w.2 = p at *
  split at h
  · have e : q = p := by omega
    subst e
    have : (v.1 - q * v.2) * w.2 - (w.1 - q * w.2) * v.2 = v.1 * w.2 - w.1 * v.2 := by grind
    omega
  · have hqp : q + 1 ≤ p := by omega
    have a1 : v.1 * w.2 ≤ (q + 1) * v.2 * w.2 := Int.mul_le_mul_of_nonneg_right (by omega) (by omega)
    have a2 : (q + 1) * v.2 * w.2 ≤ p * (v.2 * w.2) := by rw [Int.mul_assoc]; exact Int.mul_le_mul_of_nonneg_right hqp (Int.mul_nonneg (by omega) (by omega))
    have a3 : p * w.2 * v.2 ≤ w.1 * v.2 := Int.mul_le_mul_of_nonneg_right f1 (by omega)
    have a4 : p * (v.2 * w.2) = p * w.2 * v.2 := by grind
    omega
def geN (L : Int) (v : Int × Int) : Prop := L * v.2 ≤ v.1
def leN (L : Int) (v : Int × Int) : Prop := v.1 ≤ L * v.2
theorem geN_of {L : Int} {v w : Int × Int} (hv : 0 < v.2) (hw : 0 < w.2) (h : w.1 * v.2 ≤ v.1 * w.2) (hL : geN L w) : geN L v := by
  have a : L * w.2 * v.2 ≤ w.1 * v.2 := Int.mul_le_mul_of_nonneg_right hL (by omega)
  have b : w.2 * (L * v.2) ≤ w.2 * v.1 := by
    have e1 : w.2 * (L * v.2) = L * w.2 * v.2 := by grind
    have e2 : w.2 * v.1 = v.1 * w.2 := by grind
    omega
  exact Int.le_of_mul_le_mul_left b hw
theorem leN_of {L : Int} {v w : Int × Int} (hv : 0 < v.2) (hw : 0 < w.2) (h : v.1 * w.2 ≤ w.1 * v.2) (hL : leN L w) : leN L v := by
  have a : w.1 * v.2 ≤ L * w.2 * v.2 := Int.mul_le_mul_of_nonneg_right hL (by omega)
  have b : w.2 * v.1 ≤ w.2 * (L * v.2) := by
    have e1 : w.2 * (L * v.2) = L * w.2 * v.2 := by grind
    have e2 : w.2 * v.1 = v.1 * w.2 := by grind
    omega
  exact Int.le_of_mul_le_mul_left b hw
theorem exRun_bd : ∀ (l : List Pq) (s : ExS), (∀ p ∈ l, Va p.v) → (s.bg = true → Va s.le.v ∧ Va s.mo.v) →
    (∀ L p, (p ∈ l ∨ (s.bg = true ∧ p = s.le)) → geN L (exRun s l).le.v → geN L p.v) ∧ (∀ L p, (p ∈ l ∨ (s.bg = true ∧ p = s.mo)) → leN L (exRun s l).mo.v → leN L p.v)
  | [], s, _, _ => by
    constructor
    · intro L p hp h
      rcases hp with hp | ⟨_, rfl⟩
      · simp at hp
      · exact h
    · intro L p hp h
      rcases hp with hp | ⟨_, rfl⟩
      · simp at hp
      · exact h
  | q :: l, s, h, hb => by
    have hq := h q (by simp)
    have hn : (s.next q).bg = true → Va (s.next q).le.v ∧ Va (s.next q).mo.v := fun _ => by
      simp only [ExS.next]
      constructor
      · split
        · exact hq
        · rename_i hc; exact (hb (by cases hs : s.bg; exact absurd (.inl hs) hc; rfl)).1
      · split
        · exact hq
        · rename_i hc; exact (hb (by cases hs : s.bg; exact absurd (.inl hs) hc; rfl)).2
    obtain ⟨i1, i2⟩ := exRun_bd l (s.next q) (fun p hp => h p (by simp [hp])) hn
    have hN := hn rfl
    constructor
    · intro L p hp hL
      have hL' : geN L (exRun (s.next q) l).le.v := hL
      have base := i1 L _ (.inr ⟨rfl, rfl⟩) hL'
      rcases hp with hp | ⟨hs, rfl⟩
      · rcases List.mem_cons.1 hp with rfl | hp
        · by_cases hc : s.bg = false ∨ cmpV p.v s.le.v < 0
          · have e : (s.next p).le = p := if_pos hc
            rw [e] at base; exact base
          · have e : (s.next p).le = s.le := if_neg hc
            rw [e] at base
            have hsb : s.bg = true := by cases hs : s.bg; exact absurd (.inl hs) hc; rfl
            have hle := (hb hsb).1
            exact geN_of hq.w1 hle.w1 (cmpV_le hq hle fun x => hc (.inr x)) base
        · exact i1 L p (.inl hp) hL'
      · by_cases hc : s.bg = false ∨ cmpV q.v s.le.v < 0
        · have e : (s.next q).le = q := if_pos hc
          rw [e] at base
          have hle := (hb hs).1
          rcases hc with hc | hc
          · rw [hs] at hc; cases hc
          · refine geN_of hle.w1 hq.w1 ?_ base
            exact cmpV_ge hq hle (by omega)
        · have e : (s.next q).le = s.le := if_neg hc
          rw [e] at base; exact base
    · intro L p hp hL
      have hL' : leN L (exRun (s.next q) l).mo.v := hL
      have base := i2 L _ (.inr ⟨rfl, rfl⟩) hL'
      rcases hp with hp | ⟨hs, rfl⟩
      · rcases List.mem_cons.1 hp with rfl | hp
        · by_cases hc : s.bg = false ∨ 0 < cmpV p.v s.mo.v
          · have e : (s.next p).mo = p := if_pos hc
            rw [e] at base; exact base
          · have e : (s.next p).mo = s.mo := if_neg hc
            rw [e] at base
            have hsb : s.bg = true := by cases hs : s.bg; exact absurd (.inl hs) hc; rfl
            have hle := (hb hsb).2
            exact leN_of hq.w1 hle.w1 (cmpV_ge hq hle fun x => hc (.inr x)) base
        · exact i2 L p (.inl hp) hL'
      · by_cases hc : s.bg = false ∨ 0 < cmpV q.v s.mo.v
        · have e : (s.next q).mo = q := if_pos hc
          rw [e] at base
          have hle := (hb hs).2
          rcases hc with hc | hc
          · rw [hs] at hc; cases hc
          · refine leN_of hle.w1 hq.w1 ?_ base
            exact cmpV_le hq hle (by omega)
        · have e : (s.next q).mo = s.mo := if_neg hc
          rw [e] at base; exact base
theorem exRun_mem : ∀ (l : List Pq) (s : ExS), (s.bg = true ∨ l ≠ []) → ((exRun s l).le ∈ l ∨ (s.bg = true ∧ (exRun s l).le = s.le)) ∧ ((exRun s l).mo ∈ l ∨ (s.bg = true ∧ (exRun s l).mo = s.mo))
  | [], s, h => by
    rcases h with h | h
    · exact ⟨.inr ⟨h, rfl⟩, .inr ⟨h, rfl⟩⟩
    · exact absurd rfl h
  | q :: l, s, _ => by
    obtain ⟨i1, i2⟩ := exRun_mem l (s.next q) (.inl rfl)
    constructor
    · rcases i1 with i1 | ⟨_, i1⟩
      · exact .inl (List.mem_cons_of_mem _ i1)
      · have i1' : (exRun s (q :: l)).le = (s.next q).le := i1
        rw [i1']
        by_cases hc : s.bg = false ∨ cmpV q.v s.le.v < 0
        · left; rw [show (s.next q).le = q from if_pos hc]; exact List.mem_cons_self
        · right; exact ⟨by cases hs : s.bg; exact absurd (.inl hs) hc; rfl, if_neg hc⟩
    · rcases i2 with i2 | ⟨_, i2⟩
      · exact .inl (List.mem_cons_of_mem _ i2)
      · have i2' : (exRun s (q :: l)).mo = (s.next q).mo := i2
        rw [i2']
        by_cases hc : s.bg = false ∨ 0 < cmpV q.v s.mo.v
        · left; rw [show (s.next q).mo = q from if_pos hc]; exact List.mem_cons_self
        · right; exact ⟨by cases hs : s.bg; exact absurd (.inl hs) hc; rfl, if_neg hc⟩
theorem at_in {d : BdD} (h : bdErr d = 0) {x y : Int} (x0 : d.a.lo ≤ x) (x1 : x ≤ d.a.hi) (y0 : d.b.lo ≤ y) (y1 : y ≤ d.b.hi) :
    ∃ i k, inC d.t.xs i x ∧ inC d.t.ys k y ∧ atV d.t x y = (d.t.num i k x y, d.t.den i k) ∧ Va (atV d.t x y) := by
  obtain ⟨ht, _, _, la, lb⟩ := bdErr_ok h
  obtain ⟨hax, hay, _⟩ := tbB_facts ht
  have a0 := la.1; have a1 := la.2; have b0 := lb.1; have b1 := lb.2
  obtain ⟨e, hv⟩ := atV_eq ht (x := x) (y := y) (by omega) (by omega) (by omega) (by omega)
  exact ⟨_, _, cel_in hax (by omega) (by omega), cel_in hay (by omega) (by omega), e, hv⟩
theorem bound_pt {d : BdD} (h : bdErr d = 0) {x y : Int} (x0 : d.a.lo ≤ x) (x1 : x ≤ d.a.hi) (y0 : d.b.lo ≤ y) (y1 : y ≤ d.b.hi) : d.t.ge (boundF d).lo x y ∧ d.t.le (boundF d).hi x y := by
  obtain ⟨ht, _, _, la, lb⟩ := bdErr_ok h
  obtain ⟨hax, hay, _⟩ := tbB_facts ht
  have hP := exP_of h
  have hB := exRun_bd ((cnL d).map (pqAt d.t)) exS0 (fun p hp => by obtain ⟨q, hq, rfl⟩ := List.mem_map.1 hp; exact hP.v q hq) (fun e => by cases e)
  obtain ⟨vl, vm⟩ := exR_va h
  have hlo : geN (boundF d).lo (exR d).le.v := Int.ediv_mul_le _ (by have := vl.w1; exact fun e => by rw [show (exR d).le.v.2 = (exR d).le.d from rfl] at this; omega)
  have hhi : leN (boundF d).hi (exR d).mo.v := by
    have hp : (exR d).mo.d ≠ 0 := by have := vm.w1; intro e; rw [show (exR d).mo.v.2 = (exR d).mo.d from rfl] at this; omega
    have := Int.ediv_mul_le (-(exR d).mo.n) hp
    show (exR d).mo.n ≤ -(-(exR d).mo.n / (exR d).mo.d) * (exR d).mo.d
    rw [Int.neg_mul]; omega
  have h2x : 2 ≤ d.t.xs.length := (axB_len hax).1
  have h2y : 2 ≤ d.t.ys.length := (axB_len hay).1
  have hmem : ∀ p ∈ stops d.t.xs d.a, ∀ q ∈ stops d.t.ys d.b, (p, q) ∈ cnL d := fun p hp q hq => by
    simp only [cnL, pts, List.mem_flatMap, List.mem_map]
    exact ⟨p, hp, q, hq, rfl⟩
  constructor
  · refine Tb.ge_box (axB_asc hax) (axB_asc hay) h2x h2y la lb (fun p hp q hq => ?_) x0 x1 y0 y1
    obtain ⟨c1, c2, c3, c4⟩ := corner_in h (hmem p hp q hq)
    obtain ⟨i, k, hi, hk, e, _⟩ := at_in h c1 c2 c3 c4
    have := hB.1 _ _ (.inl (List.mem_map.2 ⟨(p, q), hmem p hp q hq, rfl⟩)) hlo
    refine Tb.ge_of (axB_asc hax) (axB_asc hay) hi hk ?_
    have e' : (pqAt d.t (p, q)).v = (d.t.num i k p q, d.t.den i k) := e
    rw [e'] at this
    exact this
  · refine Tb.le_box (axB_asc hax) (axB_asc hay) h2x h2y la lb (fun p hp q hq => ?_) x0 x1 y0 y1
    obtain ⟨c1, c2, c3, c4⟩ := corner_in h (hmem p hp q hq)
    obtain ⟨i, k, hi, hk, e, _⟩ := at_in h c1 c2 c3 c4
    have := hB.2 _ _ (.inl (List.mem_map.2 ⟨(p, q), hmem p hp q hq, rfl⟩)) hhi
    have e' : (pqAt d.t (p, q)).v = (d.t.num i k p q, d.t.den i k) := e
    rw [e'] at this
    refine Tb.le_neg.1 (Tb.ge_of (t := d.t.neg) (axB_asc hax) (axB_asc hay) hi hk ?_)
    rw [Tb.neg_num, Tb.neg_den, Int.neg_mul]
    have : d.t.num i k p q ≤ (boundF d).hi * d.t.den i k := this
    omega
theorem bound_in {d d' : BdD} (h : bdErr d = 0) (h' : bdErr d' = 0) (ht : d'.t = d.t) (a0 : d.a.lo ≤ d'.a.lo) (a1 : d'.a.hi ≤ d.a.hi) (b0 : d.b.lo ≤ d'.b.lo) (b1 : d'.b.hi ≤ d.b.hi) :
    (boundF d).lo ≤ (boundF d').lo ∧ (boundF d').hi ≤ (boundF d).hi := by
  obtain ⟨vl, vm⟩ := exR_va h'
  obtain ⟨m1, m2⟩ := exRun_mem ((cnL d').map (pqAt d'.t)) exS0 (.inr fun e => cnL_ne d' (by simpa using e))
  constructor
  · rcases m1 with m1 | ⟨m1, _⟩
    · obtain ⟨⟨p, q⟩, hp, e⟩ := List.mem_map.1 m1
      obtain ⟨c1, c2, c3, c4⟩ := corner_in h' hp
      simp only at c1 c2 c3 c4
      obtain ⟨i, k, hi, hk, e2, _⟩ := at_in h' c1 c2 c3 c4
      have hg := (bound_pt h (x := p) (y := q) (by omega) (by omega) (by omega) (by omega)).1 i k (ht ▸ hi) (ht ▸ hk)
      have e3 : (exR d').le.v = (d'.t.num i k p q, d'.t.den i k) := by
        show (exRun exS0 ((cnL d').map (pqAt d'.t))).le.v = _
        rw [← e]; exact e2
      rw [ht] at e3
      have w := vl.w1
      refine (Int.le_ediv_iff_mul_le (show 0 < (exR d').le.d from w)).2 ?_
      have e4 : (exR d').le.n = d.t.num i k p q := congrArg Prod.fst e3
      have e5 : (exR d').le.d = d.t.den i k := congrArg Prod.snd e3
      rw [e4, e5]; exact hg
    · cases m1
  · rcases m2 with m2 | ⟨m2, _⟩
    · obtain ⟨⟨p, q⟩, hp, e⟩ := List.mem_map.1 m2
      obtain ⟨c1, c2, c3, c4⟩ := corner_in h' hp
      simp only at c1 c2 c3 c4
      obtain ⟨i, k, hi, hk, e2, _⟩ := at_in h' c1 c2 c3 c4
      have hg := (bound_pt h (x := p) (y := q) (by omega) (by omega) (by omega) (by omega)).2 i k (ht ▸ hi) (ht ▸ hk)
      have e3 : (exR d').mo.v = (d'.t.num i k p q, d'.t.den i k) := by
        show (exRun exS0 ((cnL d').map (pqAt d'.t))).mo.v = _
        rw [← e]; exact e2
      rw [ht] at e3
      have w := vm.w1
      have e4 : (exR d').mo.n = d.t.num i k p q := congrArg Prod.fst e3
      have e5 : (exR d').mo.d = d.t.den i k := congrArg Prod.snd e3
      have : -(boundF d).hi ≤ -(exR d').mo.n / (exR d').mo.d := by
        refine (Int.le_ediv_iff_mul_le (show 0 < (exR d').mo.d from w)).2 ?_
        rw [e4, e5, Int.neg_mul]; omega
      show -(-(exR d').mo.n / (exR d').mo.d) ≤ _
      omega
    · cases m2
end Go.Sx.Tab
end
section
/- Rotor: spans, tables that are looked up, the cells of a rotor in an air. No conditions. -/
set_option linter.unusedSimpArgs false
set_option linter.unusedSectionVars false
set_option maxRecDepth 100000
set_option maxHeartbeats 4000000
namespace Go.Sx.Rot
open Go.Proofs Go.Sx Go.Sx.Tab
attribute [local irreducible] HLe
attribute [local simp] hps_app
noncomputable abbrev vaS : PSpec := mkP spE (fun _ => True) fun f => .bool (!spN f)
noncomputable abbrev E50 : Env := { P := Tryz.prog, fn := tbl [(39, .pure bxkS)], own := [], key := 5000, nt := 7 }
theorem b50 : PureBody E50 [] Tryz.f50 vaS := by
  refine pb ?_
  rintro f _
  have hd : decC slE [.sl 2 [[.int .i64 f.lo, .int .i64 f.hi]]] = [f] := decC_eq slE_inj [f]
  have hw : withinB 1 1 3 = true := by decide
  cases h : spN f
  all_goals
    simp -dsimp [Tryz.f50, E50, Sp.row]
    repeat' (first | omega | (simp -dsimp [E50, ri, cellp, ints, Sp.row, hd, hw, h]) | (refine Also.intro ?_ fun _ => ?_) | (refine Hold.intro fun _ => ?_) | (refine And.intro ?_ ?_))
theorem ok50 : FnOK Tryz.prog 50 (.pure vaS) := pure_fn (E := E50) rfl (.cons ok39 .nil) (ok := []) (fn := Tryz.f50) (by kernel_rfl) (by kernel_rfl) (by kernel_rfl) (by kernel_rfl) rfl (fun _ _ => by simp) b50
noncomputable abbrev nvS : PSpec := mkP spE (fun _ => True) fun f => .bool (spN f)
noncomputable abbrev E52 : Env := { P := Tryz.prog, fn := tbl [(50, .pure vaS)], own := [], key := 5200, nt := 6 }
theorem b52 : PureBody E52 [] Tryz.f52 nvS := by
  refine pb ?_
  rintro f _
  simp -dsimp [Tryz.f52, E52, Sp.row]
  repeat' (first | omega | (simp -dsimp [E52, ri, cellp, ints, Sp.row, spE_dec]) | (refine Also.intro ?_ fun _ => ?_) | (refine Hold.intro fun _ => ?_) | (refine And.intro ?_ ?_))
theorem ok52 : FnOK Tryz.prog 52 (.pure nvS) := pure_fn (E := E52) rfl (.cons ok50 .nil) (ok := []) (fn := Tryz.f52) (by kernel_rfl) (by kernel_rfl) (by kernel_rfl) (by kernel_rfl) rfl (fun _ _ => by simp) b52
def lkR (d : BdD) : List V := [ints d.t.xs, ints d.t.ys, .sl 1 (d.t.vs.map rwI), .int .i64 d.a.lo, .int .i64 d.a.hi, .int .i64 d.b.lo, .int .i64 d.b.hi]
theorem lkR_inj (a b : BdD) (h : lkR a = lkR b) : a = b := by
  obtain ⟨a1, ⟨a2, a3⟩, ⟨a4, a5⟩⟩ := a; obtain ⟨b1, ⟨b2, b3⟩, ⟨b4, b5⟩⟩ := b
  simp only [lkR, List.cons.injEq, V.int.injEq, true_and, and_true] at h
  have := tabR_inj a1 b1 (by simp only [tabR, List.cons.injEq, and_true]; exact ⟨h.1, h.2.1, h.2.2.1⟩)
  obtain ⟨_, _, _, rfl, rfl, rfl, rfl⟩ := h
  rw [this]
@[simp] def lkE (d : BdD) : List V := [.agg (lkR d)]
theorem lkE_inj (a b : BdD) (h : lkE a = lkE b) : a = b := lkR_inj _ _ (by simpa using h)
theorem lkE_dec (d : BdD) : decC lkE [.agg [.sl 1 (d.t.xs.map ri), .sl 1 (d.t.ys.map ri), .sl 1 (d.t.vs.map rwI), .int .i64 d.a.lo, .int .i64 d.a.hi, .int .i64 d.b.lo, .int .i64 d.b.hi]] = d := decC_eq lkE_inj d
structure LkP (d : BdD) : Prop where
  x0 : 0 < d.t.xs.length
  y0 : 0 < d.t.ys.length
  x1 : d.t.xs.length ≤ 1000000
  y1 : d.t.ys.length ≤ 1000000
def lkB (d : BdD) : Bool := lieB d.t.xs d.a && lieB d.t.ys d.b
noncomputable abbrev lkS : PSpec := mkP lkE LkP fun d => .bool (lkB d)
noncomputable abbrev E55 : Env := { P := Tryz.prog, fn := tbl [], own := [], key := 5500, nt := 55 }
theorem b55 : PureBody E55 [] Tryz.f55 lkS := by
  refine pb ?_
  rintro ⟨t, a, b⟩ ⟨h0, h1, h2, h3⟩
  simp only at h0 h1 h2 h3
  obtain ⟨x, hx, hx'⟩ := get_ex h0
  have hm : t.xs.length - 1 < t.xs.length := by omega
  obtain ⟨y, hy, hy'⟩ := get_ex hm
  have gx : t.xs.getD 0 0 = x := by simp [List.getD, hx]
  have gy : t.xs.getD (t.xs.length - 1) 0 = y := by simp [List.getD, hy]
  have wl : IntKind.wrap .i64 ((t.xs.length : Int) - 1) = (t.xs.length - 1 : Nat) := by rw [wrap_id (by omega) (by omega)]; omega
  obtain ⟨u, hu, hu'⟩ := get_ex h1
  have hn : t.ys.length - 1 < t.ys.length := by omega
  obtain ⟨v, hv, hv'⟩ := get_ex hn
  have gu : t.ys.getD 0 0 = u := by simp [List.getD, hu]
  have gv : t.ys.getD (t.ys.length - 1) 0 = v := by simp [List.getD, hv]
  have wm : IntKind.wrap .i64 ((t.ys.length : Int) - 1) = (t.ys.length - 1 : Nat) := by rw [wrap_id (by omega) (by omega)]; omega
  have hz : lkB ⟨t, a, b⟩ = ((decide (x ≤ a.lo) && decide (a.hi ≤ y)) && (decide (u ≤ b.lo) && decide (b.hi ≤ v))) := by rw [lkB, lieB, lieB, gx, gy, gu, gv]
  by_cases e1 : x ≤ a.lo <;> by_cases e2 : a.hi ≤ y <;> by_cases e3 : u ≤ b.lo
  all_goals
    simp -dsimp [Tryz.f55, E55, lkR]
    repeat' (first | omega | (simp -dsimp [E55, ri, cellp, ints, lkR, h0, h1, h2, h3, hx, hx', hm, hy, hy', wl, hu, hu', hn, hv, hv', wm, hz, e1, e2, e3]) | (refine Also.intro ?_ fun _ => ?_) | (refine Hold.intro fun _ => ?_) | (refine And.intro ?_ ?_))
theorem ok55 : FnOK Tryz.prog 55 (.pure lkS) := pure_fn (E := E55) rfl LOK.nil (ok := []) (fn := Tryz.f55) (by kernel_rfl) (by kernel_rfl) (by kernel_rfl) (by kernel_rfl) rfl (fun _ _ => by simp) b55
noncomputable abbrev nlS : PSpec := mkP lkE LkP fun d => .bool (!lkB d)
noncomputable abbrev E54 : Env := { P := Tryz.prog, fn := tbl [(55, .pure lkS)], own := [], key := 5400, nt := 6 }
theorem b54 : PureBody E54 [] Tryz.f54 nlS := by
  refine pb ?_
  rintro ⟨t, a, b⟩ hP
  have hd := lkE_dec ⟨t, a, b⟩
  simp only at hd
  simp -dsimp [Tryz.f54, E54, lkR]
  repeat' (first | omega | (simp -dsimp [E54, ri, cellp, ints, lkR, hP, hd]) | (refine Also.intro ?_ fun _ => ?_) | (refine Hold.intro fun _ => ?_) | (refine And.intro ?_ ?_))
theorem ok54 : FnOK Tryz.prog 54 (.pure nlS) := pure_fn (E := E54) rfl (.cons ok55 .nil) (ok := []) (fn := Tryz.f54) (by kernel_rfl) (by kernel_rfl) (by kernel_rfl) (by kernel_rfl) rfl (fun _ _ => by simp) b54
def bndF (d : BdD) : Sp := if bdErr d = 0 then boundF d else ⟨0, 0⟩
noncomputable abbrev bnS : PSpec := mkP lkE (fun d => TbP d.t) fun d => .agg (bndF d).row
noncomputable abbrev E27 : Env := { P := Tryz.prog, fn := tbl [(17, .pure bouS)], own := [], key := 2700, nt := 16 }
theorem b27 : PureBody E27 [] Tryz.f27 bnS := by
  refine pb ?_
  rintro ⟨t, a, b⟩ hP
  have hP : TbP t := hP
  have hd := bdE_dec t a b
  by_cases h0 : bdErr ⟨t, a, b⟩ = 0
  · have hz : bndF ⟨t, a, b⟩ = boundF ⟨t, a, b⟩ := by simp [bndF, h0]
    simp -dsimp [Tryz.f27, E27, lkR]
    repeat' (first | omega | (simp -dsimp [E27, ri, cellp, ints, lkR, hP, hd, h0, hz, Sp.row]) | (refine Also.intro ?_ fun _ => ?_) | (refine Hold.intro fun _ => ?_) | (refine And.intro ?_ ?_))
  · have hz : bndF ⟨t, a, b⟩ = ⟨0, 0⟩ := by simp [bndF, h0]
    simp -dsimp [Tryz.f27, E27, lkR]
    repeat' (first | omega | (simp -dsimp [E27, ri, cellp, ints, lkR, hP, hd, h0, hz, Sp.row]) | (refine Also.intro ?_ fun _ => ?_) | (refine Hold.intro fun _ => ?_) | (refine And.intro ?_ ?_))
theorem ok27 : FnOK Tryz.prog 27 (.pure bnS) := pure_fn (E := E27) rfl (.cons ok17 .nil) (ok := []) (fn := Tryz.f27) (by kernel_rfl) (by kernel_rfl) (by kernel_rfl) (by kernel_rfl) rfl (fun _ _ => by simp) b27
end Go.Sx.Rot
end
section
/- Rotor: the cells of a rotor in an air; the tables of a machine; what it needs. No conditions. -/
set_option linter.unusedSimpArgs false
set_option linter.unusedSectionVars false
set_option maxRecDepth 100000
set_option maxHeartbeats 4000000
namespace Go.Sx.Rot
open Go.Proofs Go.Sx Go.Sx.Tab
attribute [local irreducible] HLe
attribute [local simp] hps_app
structure Ro where
  h : Tb
  g : Tb
  l : Tb
  p : Tb
  n : Tb
  rl : Tb
  rh : Tb
  gl : Tb
  climb : Int
  burn : Int
  deriving Inhabited
def Ro.row (r : Ro) : List V := tabR r.h ++ tabR r.g ++ tabR r.l ++ tabR r.p ++ tabR r.n ++ tabR r.rl ++ tabR r.rh ++ tabR r.gl ++ [.int .i64 r.climb, .int .i64 r.burn]
theorem tabR_app {a b : Tb} {x y : List V} (h : tabR a ++ x = tabR b ++ y) : a = b ∧ x = y := by
  have := List.append_inj h rfl
  exact ⟨tabR_inj _ _ this.1, this.2⟩
theorem Ro.row_inj (a b : Ro) (h : a.row = b.row) : a = b := by
  obtain ⟨a0, a1, a2, a3, a4, a5, a6, a7, a8, a9⟩ := a; obtain ⟨b0, b1, b2, b3, b4, b5, b6, b7, b8, b9⟩ := b
  simp only [Ro.row, List.append_assoc] at h
  obtain ⟨e0, h⟩ := tabR_app h
  obtain ⟨e1, h⟩ := tabR_app h
  obtain ⟨e2, h⟩ := tabR_app h
  obtain ⟨e3, h⟩ := tabR_app h
  obtain ⟨e4, h⟩ := tabR_app h
  obtain ⟨e5, h⟩ := tabR_app h
  obtain ⟨e6, h⟩ := tabR_app h
  obtain ⟨e7, h⟩ := tabR_app h
  simp only [List.cons.injEq, V.int.injEq, true_and, and_true] at h
  rw [e0, e1, e2, e3, e4, e5, e6, e7, h.1, h.2]
structure Ai where
  w : Sp
  t : Sp
  h : Sp
  v : Sp
  deriving Inhabited
def Ai.row (a : Ai) : List V := [.int .i64 a.w.lo, .int .i64 a.w.hi, .int .i64 a.t.lo, .int .i64 a.t.hi, .int .i64 a.h.lo, .int .i64 a.h.hi, .int .i64 a.v.lo, .int .i64 a.v.hi]
theorem Ai.row_inj (a b : Ai) (h : a.row = b.row) : a = b := by
  obtain ⟨⟨_, _⟩, ⟨_, _⟩, ⟨_, _⟩, ⟨_, _⟩⟩ := a; obtain ⟨⟨_, _⟩, ⟨_, _⟩, ⟨_, _⟩, ⟨_, _⟩⟩ := b
  simp only [Ai.row, List.cons.injEq, V.int.injEq, true_and, and_true] at h
  obtain ⟨rfl, rfl, rfl, rfl, rfl, rfl, rfl, rfl⟩ := h; rfl
structure Ma where
  r : Ro
  a : Ai
  deriving Inhabited
def Ma.row (m : Ma) : List V := m.r.row ++ m.a.row
theorem Ma.row_inj (a b : Ma) (h : a.row = b.row) : a = b := by
  obtain ⟨a1, a2⟩ := a; obtain ⟨b1, b2⟩ := b
  have := List.append_inj h rfl
  rw [show a1 = b1 from Ro.row_inj _ _ this.1, show a2 = b2 from Ai.row_inj _ _ this.2]
@[simp] theorem ro_len (r : Ro) : r.row.length = 26 := rfl
@[simp] theorem ma_len (m : Ma) : m.row.length = 34 := rfl
@[simp] theorem ai_len (a : Ai) : a.row.length = 8 := rfl
@[simp] theorem ro_take (r : Ro) : r.row.take 26 = r.row := rfl
@[simp] theorem ma_take (m : Ma) : m.row.take 34 = m.row := rfl
@[simp] theorem ai_take (a : Ai) : a.row.take 8 = a.row := rfl
@[simp] theorem ma_r (m : Ma) : m.row.take 26 = m.r.row := rfl
@[simp] theorem ma_a (m : Ma) : (m.row.drop 26).take 8 = m.a.row := rfl
@[simp] theorem ma_a' (m : Ma) : m.row.drop 26 = m.a.row := rfl
@[simp] theorem ma_h (m : Ma) : m.row.take 3 = [ints m.r.h.xs, ints m.r.h.ys, .sl 1 (m.r.h.vs.map rwI)] := rfl
@[simp] theorem ma_g (m : Ma) : (m.row.drop 3).take 3 = [ints m.r.g.xs, ints m.r.g.ys, .sl 1 (m.r.g.vs.map rwI)] := rfl
@[simp] theorem ma_p (m : Ma) : (m.row.drop 9).take 3 = [ints m.r.p.xs, ints m.r.p.ys, .sl 1 (m.r.p.vs.map rwI)] := rfl
@[simp] theorem ma_w (m : Ma) : (m.row.drop 26).take 2 = [.int .i64 m.a.w.lo, .int .i64 m.a.w.hi] := rfl
@[simp] theorem ma_t (m : Ma) : (m.row.drop 28).take 2 = [.int .i64 m.a.t.lo, .int .i64 m.a.t.hi] := rfl
@[simp] theorem ma_hh (m : Ma) : (m.row.drop 30).take 2 = [.int .i64 m.a.h.lo, .int .i64 m.a.h.hi] := rfl
@[simp] theorem ma_v (m : Ma) : (m.row.drop 32).take 2 = [.int .i64 m.a.v.lo, .int .i64 m.a.v.hi] := rfl
@[simp] theorem ai_w (a : Ai) : a.row.take 2 = [.int .i64 a.w.lo, .int .i64 a.w.hi] := rfl
@[simp] theorem ai_t (a : Ai) : (a.row.drop 2).take 2 = [.int .i64 a.t.lo, .int .i64 a.t.hi] := rfl
@[simp] theorem ai_h (a : Ai) : (a.row.drop 4).take 2 = [.int .i64 a.h.lo, .int .i64 a.h.hi] := rfl
@[simp] theorem ai_v (a : Ai) : (a.row.drop 6).take 2 = [.int .i64 a.v.lo, .int .i64 a.v.hi] := rfl
@[simp] theorem ro_h (r : Ro) : r.row.take 3 = [ints r.h.xs, ints r.h.ys, .sl 1 (r.h.vs.map rwI)] := rfl
@[simp] theorem ro_g (r : Ro) : (r.row.drop 3).take 3 = [ints r.g.xs, ints r.g.ys, .sl 1 (r.g.vs.map rwI)] := rfl
@[simp] theorem ro_l (r : Ro) : (r.row.drop 6).take 3 = [ints r.l.xs, ints r.l.ys, .sl 1 (r.l.vs.map rwI)] := rfl
@[simp] theorem ro_p (r : Ro) : (r.row.drop 9).take 3 = [ints r.p.xs, ints r.p.ys, .sl 1 (r.p.vs.map rwI)] := rfl
@[simp] theorem ro_n (r : Ro) : (r.row.drop 12).take 3 = [ints r.n.xs, ints r.n.ys, .sl 1 (r.n.vs.map rwI)] := rfl
@[simp] theorem ro_rl (r : Ro) : (r.row.drop 15).take 3 = [ints r.rl.xs, ints r.rl.ys, .sl 1 (r.rl.vs.map rwI)] := rfl
@[simp] theorem ro_rh (r : Ro) : (r.row.drop 18).take 3 = [ints r.rh.xs, ints r.rh.ys, .sl 1 (r.rh.vs.map rwI)] := rfl
@[simp] theorem ro_gl (r : Ro) : (r.row.drop 21).take 3 = [ints r.gl.xs, ints r.gl.ys, .sl 1 (r.gl.vs.map rwI)] := rfl
@[simp] theorem ro_24 (r : Ro) : r.row[24]? = some (.int .i64 r.climb) := rfl
@[simp] theorem ro_25 (r : Ro) : r.row[25]? = some (.int .i64 r.burn) := rfl
theorem subs0_refl : ∀ l : List V, subs0 l l
  | [] => trivial
  | x :: l => ⟨by cases x <;> simp [sub0], subs0_refl l⟩
@[simp] theorem ma_leaf (m : Ma) : m.row.all V.leaf = true := rfl
@[simp] theorem ma_cell (m : Ma) : m.row.all V.cell1 = true := rfl
@[simp] theorem ma_free (m : Ma) : m.row.all V.refFree = true := rfl
@[simp] theorem ma_free1 (m : Ma) : m.row.all V.refFree1 = true := rfl
@[simp] theorem ma_lend (h : Hp) (m : Ma) : lends1 h m.row = (True, m.row) := by simp [Ma.row, Ro.row, Ai.row, tabR, ints, lends1, lend1, lendN]
@[simp] theorem ma_subs (m : Ma) : subs0 m.row m.row = True := eq_true (subs0_refl _)
@[simp] theorem ro_leaf (r : Ro) : r.row.all V.leaf = true := rfl
@[simp] theorem ro_cell (r : Ro) : r.row.all V.cell1 = true := rfl
@[simp] theorem ro_free (r : Ro) : r.row.all V.refFree = true := rfl
@[simp] theorem ro_free1 (r : Ro) : r.row.all V.refFree1 = true := rfl
@[simp] theorem ro_lend (h : Hp) (r : Ro) : lends1 h r.row = (True, r.row) := by simp [Ro.row, tabR, ints, lends1, lend1, lendN]
@[simp] theorem ro_subs (r : Ro) : subs0 r.row r.row = True := eq_true (subs0_refl _)
@[simp] theorem ai_leaf (a : Ai) : a.row.all V.leaf = true := rfl
@[simp] theorem ai_cell (a : Ai) : a.row.all V.cell1 = true := rfl
@[simp] theorem ai_free (a : Ai) : a.row.all V.refFree = true := rfl
@[simp] theorem ai_free1 (a : Ai) : a.row.all V.refFree1 = true := rfl
@[simp] theorem ai_lend (h : Hp) (a : Ai) : lends1 h a.row = (True, a.row) := by simp [Ai.row, lends1, lend1, lendN]
@[simp] theorem ai_subs (a : Ai) : subs0 a.row a.row = True := eq_true (subs0_refl _)
@[simp] def maE (m : Ma) : List V := [.agg m.row]
theorem maE_inj (a b : Ma) (h : maE a = maE b) : a = b := Ma.row_inj _ _ (by simpa using h)
theorem maE_dec (m : Ma) : decC maE [.agg m.row] = m := decC_eq maE_inj m
@[simp] def mbE (d : Ma × Sp) : List V := [.agg d.1.row, .agg d.2.row]
theorem mbE_inj (a b : Ma × Sp) (h : mbE a = mbE b) : a = b := by
  obtain ⟨a1, a2⟩ := a; obtain ⟨b1, b2⟩ := b
  simp only [mbE, List.cons.injEq, V.agg.injEq, and_true] at h
  rw [Ma.row_inj _ _ h.1, Sp.row_inj _ _ h.2]
theorem mbE_dec (m : Ma) (s : Sp) : decC mbE [.agg m.row, .agg [.int .i64 s.lo, .int .i64 s.hi]] = (m, s) := decC_eq mbE_inj (m, s)
def hovD (m : Ma) : BdD := ⟨m.r.h, m.a.w, m.a.t⟩
def groD (m : Ma) (s : Sp) : BdD := ⟨m.r.g, s, m.a.v⟩
def powD (m : Ma) : BdD := ⟨m.r.p, m.a.t, m.a.h⟩
noncomputable abbrev powS : PSpec := mkP maE (fun _ => True) fun m => .agg (lkR (powD m))
noncomputable abbrev E26 : Env := { P := Tryz.prog, fn := tbl [], own := [], key := 2600, nt := 13 }
theorem b26 : PureBody E26 [] Tryz.f26 powS := by
  refine pb ?_
  rintro m _
  simp -dsimp [Tryz.f26, E26]
  repeat' (first | omega | (simp -dsimp [E26, ri, cellp, ints, lkR, powD]) | (refine Also.intro ?_ fun _ => ?_) | (refine Hold.intro fun _ => ?_) | (refine And.intro ?_ ?_))
theorem ok26 : FnOK Tryz.prog 26 (.pure powS) := pure_fn (E := E26) rfl LOK.nil (ok := []) (fn := Tryz.f26) (by kernel_rfl) (by kernel_rfl) (by kernel_rfl) (by kernel_rfl) rfl (fun _ _ => by simp) b26
end Go.Sx.Rot
end
