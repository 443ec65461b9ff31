/- A part of a proof; no conditions. -/
import Derived.Test.YtjpmoggimhmidaaGreatP28
import Derived.Test.YtjpmoggimhmidaaGreatP29
set_option linter.unusedSimpArgs false
set_option linter.unusedVariables false
set_option linter.unusedSectionVars false
section
/- Tables: Bound over a part of a box lies within Bound over the box (plain). No conditions. -/
set_option linter.unusedSimpArgs false
set_option linter.unusedSectionVars false
namespace Go.Sx.Tab

/-- The sign of a comparison is that of the fractions'. -/
theorem cmpV_le {v w : Int × Int} (hv : Va v) (hw : Va w) (h : ¬ cmpV v w < 0) : w.1 * v.2 ≤ v.1 * w.2 := by
  obtain ⟨_, _, v3, _⟩ := hv
  obtain ⟨_, _, w3, _⟩ := hw
  unfold cmpV at h
  have e1 := Int.ediv_mul_le v.1 (show v.2 ≠ 0 by omega)
  have e2 := Int.lt_ediv_add_one_mul_self v.1 v3
  have f1 := Int.ediv_mul_le w.1 (show w.2 ≠ 0 by omega)
  have f2 := Int.lt_ediv_add_one_mul_self w.1 w3
  generalize hq : v.1 / v.2 = q at *
  generalize hp : w.1 / w.2 = p at *
  split at h
  · have e : q = p := by omega
    subst e
    have : (v.1 - q * v.2) * w.2 - (w.1 - q * w.2) * v.2 = v.1 * w.2 - w.1 * v.2 := by grind
    omega
  · have hqp : p + 1 ≤ q := by omega
    have a1 : w.1 * v.2 ≤ (p + 1) * w.2 * v.2 := Int.mul_le_mul_of_nonneg_right (by omega) (by omega)
    have a2 : (p + 1) * w.2 * v.2 ≤ q * (w.2 * v.2) := by rw [Int.mul_assoc]; exact Int.mul_le_mul_of_nonneg_right hqp (Int.mul_nonneg (by omega) (by omega))
    have a3 : q * v.2 * w.2 ≤ v.1 * w.2 := Int.mul_le_mul_of_nonneg_right e1 (by omega)
    have a4 : q * (w.2 * v.2) = q * v.2 * w.2 := by grind
    omega
theorem cmpV_ge {v w : Int × Int} (hv : Va v) (hw : Va w) (h : ¬ 0 < cmpV v w) : v.1 * w.2 ≤ w.1 * v.2 := by
  obtain ⟨_, _, v3, _⟩ := hv
  obtain ⟨_, _, w3, _⟩ := hw
  unfold cmpV at h
  have e1 := Int.ediv_mul_le v.1 (show v.2 ≠ 0 by omega)
  have e2 := Int.lt_ediv_add_one_mul_self v.1 v3
  have f1 := Int.ediv_mul_le w.1 (show w.2 ≠ 0 by omega)
  have f2 := Int.lt_ediv_add_one_mul_self w.1 w3
  generalize hq : v.1 / v.2 = q at *
  generalize hp : w.1 / w.2 = p at *
  split at h
  · have e : q = p := by omega
    subst e
    have : (v.1 - q * v.2) * w.2 - (w.1 - q * w.2) * v.2 = v.1 * w.2 - w.1 * v.2 := by grind
    omega
  · have hqp : q + 1 ≤ p := by omega
    have a1 : v.1 * w.2 ≤ (q + 1) * v.2 * w.2 := Int.mul_le_mul_of_nonneg_right (by omega) (by omega)
    have a2 : (q + 1) * v.2 * w.2 ≤ p * (v.2 * w.2) := by rw [Int.mul_assoc]; exact Int.mul_le_mul_of_nonneg_right hqp (Int.mul_nonneg (by omega) (by omega))
    have a3 : p * w.2 * v.2 ≤ w.1 * v.2 := Int.mul_le_mul_of_nonneg_right f1 (by omega)
    have a4 : p * (v.2 * w.2) = p * w.2 * v.2 := by grind
    omega
/-- At least the whole number L. -/
def geN (L : Int) (v : Int × Int) : Prop := L * v.2 ≤ v.1
def leN (L : Int) (v : Int × Int) : Prop := v.1 ≤ L * v.2
theorem geN_of {L : Int} {v w : Int × Int} (hv : 0 < v.2) (hw : 0 < w.2) (h : w.1 * v.2 ≤ v.1 * w.2) (hL : geN L w) : geN L v := by
  have a : L * w.2 * v.2 ≤ w.1 * v.2 := Int.mul_le_mul_of_nonneg_right hL (by omega)
  have b : w.2 * (L * v.2) ≤ w.2 * v.1 := by
    have e1 : w.2 * (L * v.2) = L * w.2 * v.2 := by grind
    have e2 : w.2 * v.1 = v.1 * w.2 := by grind
    omega
  exact Int.le_of_mul_le_mul_left b hw
theorem leN_of {L : Int} {v w : Int × Int} (hv : 0 < v.2) (hw : 0 < w.2) (h : v.1 * w.2 ≤ w.1 * v.2) (hL : leN L w) : leN L v := by
  have a : w.1 * v.2 ≤ L * w.2 * v.2 := Int.mul_le_mul_of_nonneg_right hL (by omega)
  have b : w.2 * v.1 ≤ w.2 * (L * v.2) := by
    have e1 : w.2 * (L * v.2) = L * w.2 * v.2 := by grind
    have e2 : w.2 * v.1 = v.1 * w.2 := by grind
    omega
  exact Int.le_of_mul_le_mul_left b hw
theorem exRun_bd : ∀ (l : List Pq) (s : ExS), (∀ p ∈ l, Va p.v) → (s.bg = true → Va s.le.v ∧ Va s.mo.v) →
    (∀ L p, (p ∈ l ∨ (s.bg = true ∧ p = s.le)) → geN L (exRun s l).le.v → geN L p.v) ∧ (∀ L p, (p ∈ l ∨ (s.bg = true ∧ p = s.mo)) → leN L (exRun s l).mo.v → leN L p.v)
  | [], s, _, _ => by
    constructor
    · intro L p hp h
      rcases hp with hp | ⟨_, rfl⟩
      · simp at hp
      · exact h
    · intro L p hp h
      rcases hp with hp | ⟨_, rfl⟩
      · simp at hp
      · exact h
  | q :: l, s, h, hb => by
    have hq := h q (by simp)
    have hn : (s.next q).bg = true → Va (s.next q).le.v ∧ Va (s.next q).mo.v := fun _ => by
      simp only [ExS.next]
      constructor
      · split
        · exact hq
        · rename_i hc; exact (hb (by cases hs : s.bg; exact absurd (.inl hs) hc; rfl)).1
      · split
        · exact hq
        · rename_i hc; exact (hb (by cases hs : s.bg; exact absurd (.inl hs) hc; rfl)).2
    obtain ⟨i1, i2⟩ := exRun_bd l (s.next q) (fun p hp => h p (by simp [hp])) hn
    have hN := hn rfl
    constructor
    · intro L p hp hL
      have hL' : geN L (exRun (s.next q) l).le.v := hL
      have base := i1 L _ (.inr ⟨rfl, rfl⟩) hL'
      rcases hp with hp | ⟨hs, rfl⟩
      · rcases List.mem_cons.1 hp with rfl | hp
        · by_cases hc : s.bg = false ∨ cmpV p.v s.le.v < 0
          · have e : (s.next p).le = p := if_pos hc
            rw [e] at base; exact base
          · have e : (s.next p).le = s.le := if_neg hc
            rw [e] at base
            have hsb : s.bg = true := by cases hs : s.bg; exact absurd (.inl hs) hc; rfl
            have hle := (hb hsb).1
            exact geN_of hq.w1 hle.w1 (cmpV_le hq hle fun x => hc (.inr x)) base
        · exact i1 L p (.inl hp) hL'
      · by_cases hc : s.bg = false ∨ cmpV q.v s.le.v < 0
        · have e : (s.next q).le = q := if_pos hc
          rw [e] at base
          have hle := (hb hs).1
          rcases hc with hc | hc
          · rw [hs] at hc; cases hc
          · refine geN_of hle.w1 hq.w1 ?_ base
            exact cmpV_ge hq hle (by omega)
        · have e : (s.next q).le = s.le := if_neg hc
          rw [e] at base; exact base
    · intro L p hp hL
      have hL' : leN L (exRun (s.next q) l).mo.v := hL
      have base := i2 L _ (.inr ⟨rfl, rfl⟩) hL'
      rcases hp with hp | ⟨hs, rfl⟩
      · rcases List.mem_cons.1 hp with rfl | hp
        · by_cases hc : s.bg = false ∨ 0 < cmpV p.v s.mo.v
          · have e : (s.next p).mo = p := if_pos hc
            rw [e] at base; exact base
          · have e : (s.next p).mo = s.mo := if_neg hc
            rw [e] at base
            have hsb : s.bg = true := by cases hs : s.bg; exact absurd (.inl hs) hc; rfl
            have hle := (hb hsb).2
            exact leN_of hq.w1 hle.w1 (cmpV_ge hq hle fun x => hc (.inr x)) base
        · exact i2 L p (.inl hp) hL'
      · by_cases hc : s.bg = false ∨ 0 < cmpV q.v s.mo.v
        · have e : (s.next q).mo = q := if_pos hc
          rw [e] at base
          have hle := (hb hs).2
          rcases hc with hc | hc
          · rw [hs] at hc; cases hc
          · refine leN_of hle.w1 hq.w1 ?_ base
            exact cmpV_le hq hle (by omega)
        · have e : (s.next q).mo = s.mo := if_neg hc
          rw [e] at base; exact base
theorem exRun_mem : ∀ (l : List Pq) (s : ExS), (s.bg = true ∨ l ≠ []) → ((exRun s l).le ∈ l ∨ (s.bg = true ∧ (exRun s l).le = s.le)) ∧ ((exRun s l).mo ∈ l ∨ (s.bg = true ∧ (exRun s l).mo = s.mo))
  | [], s, h => by
    rcases h with h | h
    · exact ⟨.inr ⟨h, rfl⟩, .inr ⟨h, rfl⟩⟩
    · exact absurd rfl h
  | q :: l, s, _ => by
    obtain ⟨i1, i2⟩ := exRun_mem l (s.next q) (.inl rfl)
    constructor
    · rcases i1 with i1 | ⟨_, i1⟩
      · exact .inl (List.mem_cons_of_mem _ i1)
      · have i1' : (exRun s (q :: l)).le = (s.next q).le := i1
        rw [i1']
        by_cases hc : s.bg = false ∨ cmpV q.v s.le.v < 0
        · left; rw [show (s.next q).le = q from if_pos hc]; exact List.mem_cons_self
        · right; exact ⟨by cases hs : s.bg; exact absurd (.inl hs) hc; rfl, if_neg hc⟩
    · rcases i2 with i2 | ⟨_, i2⟩
      · exact .inl (List.mem_cons_of_mem _ i2)
      · have i2' : (exRun s (q :: l)).mo = (s.next q).mo := i2
        rw [i2']
        by_cases hc : s.bg = false ∨ 0 < cmpV q.v s.mo.v
        · left; rw [show (s.next q).mo = q from if_pos hc]; exact List.mem_cons_self
        · right; exact ⟨by cases hs : s.bg; exact absurd (.inl hs) hc; rfl, if_neg hc⟩
theorem at_in {d : BdD} (h : bdErr d = 0) {x y : Int} (x0 : d.a.lo ≤ x) (x1 : x ≤ d.a.hi) (y0 : d.b.lo ≤ y) (y1 : y ≤ d.b.hi) :
    ∃ i k, inC d.t.xs i x ∧ inC d.t.ys k y ∧ atV d.t x y = (d.t.num i k x y, d.t.den i k) ∧ Va (atV d.t x y) := by
  obtain ⟨ht, _, _, la, lb⟩ := bdErr_ok h
  obtain ⟨hax, hay, _⟩ := tbB_facts ht
  have a0 := la.1; have a1 := la.2; have b0 := lb.1; have b1 := lb.2
  obtain ⟨e, hv⟩ := atV_eq ht (x := x) (y := y) (by omega) (by omega) (by omega) (by omega)
  exact ⟨_, _, cel_in hax (by omega) (by omega), cel_in hay (by omega) (by omega), e, hv⟩
/-- What a bound says of a point of the box. -/
theorem bound_pt {d : BdD} (h : bdErr d = 0) {x y : Int} (x0 : d.a.lo ≤ x) (x1 : x ≤ d.a.hi) (y0 : d.b.lo ≤ y) (y1 : y ≤ d.b.hi) : d.t.ge (boundF d).lo x y ∧ d.t.le (boundF d).hi x y := by
  obtain ⟨ht, _, _, la, lb⟩ := bdErr_ok h
  obtain ⟨hax, hay, _⟩ := tbB_facts ht
  have hP := exP_of h
  have hB := exRun_bd ((cnL d).map (pqAt d.t)) exS0 (fun p hp => by obtain ⟨q, hq, rfl⟩ := List.mem_map.1 hp; exact hP.v q hq) (fun e => by cases e)
  obtain ⟨vl, vm⟩ := exR_va h
  have hlo : geN (boundF d).lo (exR d).le.v := Int.ediv_mul_le _ (by have := vl.w1; exact fun e => by rw [show (exR d).le.v.2 = (exR d).le.d from rfl] at this; omega)
  have hhi : leN (boundF d).hi (exR d).mo.v := by
    have hp : (exR d).mo.d ≠ 0 := by have := vm.w1; intro e; rw [show (exR d).mo.v.2 = (exR d).mo.d from rfl] at this; omega
    have := Int.ediv_mul_le (-(exR d).mo.n) hp
    show (exR d).mo.n ≤ -(-(exR d).mo.n / (exR d).mo.d) * (exR d).mo.d
    rw [Int.neg_mul]; omega
  have h2x : 2 ≤ d.t.xs.length := (axB_len hax).1
  have h2y : 2 ≤ d.t.ys.length := (axB_len hay).1
  have hmem : ∀ p ∈ stops d.t.xs d.a, ∀ q ∈ stops d.t.ys d.b, (p, q) ∈ cnL d := fun p hp q hq => by
    simp only [cnL, pts, List.mem_flatMap, List.mem_map]
    exact ⟨p, hp, q, hq, rfl⟩
  constructor
  · refine Tb.ge_box (axB_asc hax) (axB_asc hay) h2x h2y la lb (fun p hp q hq => ?_) x0 x1 y0 y1
    obtain ⟨c1, c2, c3, c4⟩ := corner_in h (hmem p hp q hq)
    obtain ⟨i, k, hi, hk, e, _⟩ := at_in h c1 c2 c3 c4
    have := hB.1 _ _ (.inl (List.mem_map.2 ⟨(p, q), hmem p hp q hq, rfl⟩)) hlo
    refine Tb.ge_of (axB_asc hax) (axB_asc hay) hi hk ?_
    have e' : (pqAt d.t (p, q)).v = (d.t.num i k p q, d.t.den i k) := e
    rw [e'] at this
    exact this
  · refine Tb.le_box (axB_asc hax) (axB_asc hay) h2x h2y la lb (fun p hp q hq => ?_) x0 x1 y0 y1
    obtain ⟨c1, c2, c3, c4⟩ := corner_in h (hmem p hp q hq)
    obtain ⟨i, k, hi, hk, e, _⟩ := at_in h c1 c2 c3 c4
    have := hB.2 _ _ (.inl (List.mem_map.2 ⟨(p, q), hmem p hp q hq, rfl⟩)) hhi
    have e' : (pqAt d.t (p, q)).v = (d.t.num i k p q, d.t.den i k) := e
    rw [e'] at this
    refine Tb.le_neg.1 (Tb.ge_of (t := d.t.neg) (axB_asc hax) (axB_asc hay) hi hk ?_)
    rw [Tb.neg_num, Tb.neg_den, Int.neg_mul]
    have : d.t.num i k p q ≤ (boundF d).hi * d.t.den i k := this
    omega
/-- The bound over a part of a box lies within the bound over the box. -/
theorem bound_in {d d' : BdD} (h : bdErr d = 0) (h' : bdErr d' = 0) (ht : d'.t = d.t) (a0 : d.a.lo ≤ d'.a.lo) (a1 : d'.a.hi ≤ d.a.hi) (b0 : d.b.lo ≤ d'.b.lo) (b1 : d'.b.hi ≤ d.b.hi) :
    (boundF d).lo ≤ (boundF d').lo ∧ (boundF d').hi ≤ (boundF d).hi := by
  obtain ⟨vl, vm⟩ := exR_va h'
  obtain ⟨m1, m2⟩ := exRun_mem ((cnL d').map (pqAt d'.t)) exS0 (.inr fun e => cnL_ne d' (by simpa using e))
  constructor
  · rcases m1 with m1 | ⟨m1, _⟩
    · obtain ⟨⟨p, q⟩, hp, e⟩ := List.mem_map.1 m1
      obtain ⟨c1, c2, c3, c4⟩ := corner_in h' hp
      simp only at c1 c2 c3 c4
      obtain ⟨i, k, hi, hk, e2, _⟩ := at_in h' c1 c2 c3 c4
      have hg := (bound_pt h (x := p) (y := q) (by omega) (by omega) (by omega) (by omega)).1 i k (ht ▸ hi) (ht ▸ hk)
      have e3 : (exR d').le.v = (d'.t.num i k p q, d'.t.den i k) := by
        show (exRun exS0 ((cnL d').map (pqAt d'.t))).le.v = _
        rw [← e]; exact e2
      rw [ht] at e3
      have w := vl.w1
      refine (Int.le_ediv_iff_mul_le (show 0 < (exR d').le.d from w)).2 ?_
      have e4 : (exR d').le.n = d.t.num i k p q := congrArg Prod.fst e3
      have e5 : (exR d').le.d = d.t.den i k := congrArg Prod.snd e3
      rw [e4, e5]; exact hg
    · cases m1
  · rcases m2 with m2 | ⟨m2, _⟩
    · obtain ⟨⟨p, q⟩, hp, e⟩ := List.mem_map.1 m2
      obtain ⟨c1, c2, c3, c4⟩ := corner_in h' hp
      simp only at c1 c2 c3 c4
      obtain ⟨i, k, hi, hk, e2, _⟩ := at_in h' c1 c2 c3 c4
      have hg := (bound_pt h (x := p) (y := q) (by omega) (by omega) (by omega) (by omega)).2 i k (ht ▸ hi) (ht ▸ hk)
      have e3 : (exR d').mo.v = (d'.t.num i k p q, d'.t.den i k) := by
        show (exRun exS0 ((cnL d').map (pqAt d'.t))).mo.v = _
        rw [← e]; exact e2
      rw [ht] at e3
      have w := vm.w1
      have e4 : (exR d').mo.n = d.t.num i k p q := congrArg Prod.fst e3
      have e5 : (exR d').mo.d = d.t.den i k := congrArg Prod.snd e3
      have : -(boundF d).hi ≤ -(exR d').mo.n / (exR d').mo.d := by
        refine (Int.le_ediv_iff_mul_le (show 0 < (exR d').mo.d from w)).2 ?_
        rw [e4, e5, Int.neg_mul]; omega
      show -(-(exR d').mo.n / (exR d').mo.d) ≤ _
      omega
    · cases m2
end Go.Sx.Tab
end
section
/- Tables: the reference's bound (the least floor and the greatest ceiling of the corners) is Bound's (plain). No conditions. -/
set_option linter.unusedSimpArgs false
set_option linter.unusedSectionVars false
namespace Go.Sx.Tab

/-- The reference's cell: the last knot that is at most the number, but not the last one of all. -/
def partN (l : List Int) (x : Int) : Nat → Nat → Nat
  | 0, i => i
  | f + 1, i => if i + 2 < l.length ∧ l.getD (i + 1) 0 ≤ x then partN l x f (i + 1) else i
theorem partN_in {l : List Int} (h2 : 2 ≤ l.length) {x : Int} (x1 : x ≤ l.getD (l.length - 1) 0) : ∀ f i, i + 1 < l.length → l.length ≤ i + f + 2 → l.getD i 0 ≤ x → inC l (partN l x f i) x
  | 0, i, hi, hf, h0 => by
    have e : i + 1 = l.length - 1 := by omega
    exact ⟨hi, h0, by show x ≤ l.getD (i + 1) 0; rw [e]; exact x1⟩
  | f + 1, i, hi, hf, h0 => by
    simp only [partN]
    split
    · rename_i h
      exact partN_in h2 x1 f (i + 1) (by omega) (by omega) h.2
    · rename_i h
      refine ⟨hi, h0, ?_⟩
      by_cases hl : i + 2 < l.length
      · have : ¬ l.getD (i + 1) 0 ≤ x := fun c => h ⟨hl, c⟩
        omega
      · have e : i + 1 = l.length - 1 := by omega
        rw [e]; exact x1
def valR (t : Tb) (p : Int × Int) : Int × Int :=
  (t.num (partN t.xs p.1 t.xs.length 0) (partN t.ys p.2 t.ys.length 0) p.1 p.2, t.den (partN t.xs p.1 t.xs.length 0) (partN t.ys p.2 t.ys.length 0))
def flV (v : Int × Int) : Int := v.1 / v.2
def ceV (v : Int × Int) : Int := -(-v.1 / v.2)
def rbNext (s : Sp) (v : Int × Int) : Sp := ⟨min s.lo (flV v), max s.hi (ceV v)⟩
def rbRun (s : Sp) (l : List (Int × Int)) : Sp := l.foldl rbNext s
theorem rbRun_lo : ∀ (l : List (Int × Int)) (s : Sp) (L : Int), L ≤ s.lo → (∀ v ∈ l, L ≤ flV v) → ((∃ v ∈ l, flV v = L) ∨ s.lo = L) → (rbRun s l).lo = L
  | [], s, L, _, _, h => by
    rcases h with ⟨v, hv, _⟩ | h
    · simp at hv
    · exact h
  | v :: l, s, L, h1, h2, h3 => by
    have hv := h2 v (by simp)
    refine rbRun_lo l (rbNext s v) L (by simp only [rbNext]; omega) (fun w hw => h2 w (by simp [hw])) ?_
    rcases h3 with ⟨w, hw, e⟩ | h3
    · rcases List.mem_cons.1 hw with rfl | hw
      · right; simp only [rbNext]; omega
      · exact .inl ⟨w, hw, e⟩
    · right; simp only [rbNext]; omega
theorem rbRun_hi : ∀ (l : List (Int × Int)) (s : Sp) (L : Int), s.hi ≤ L → (∀ v ∈ l, ceV v ≤ L) → ((∃ v ∈ l, ceV v = L) ∨ s.hi = L) → (rbRun s l).hi = L
  | [], s, L, _, _, h => by
    rcases h with ⟨v, hv, _⟩ | h
    · simp at hv
    · exact h
  | v :: l, s, L, h1, h2, h3 => by
    have hv := h2 v (by simp)
    refine rbRun_hi l (rbNext s v) L (by simp only [rbNext]; omega) (fun w hw => h2 w (by simp [hw])) ?_
    rcases h3 with ⟨w, hw, e⟩ | h3
    · rcases List.mem_cons.1 hw with rfl | hw
      · right; simp only [rbNext]; omega
      · exact .inl ⟨w, hw, e⟩
    · right; simp only [rbNext]; omega
theorem ediv_same {a b c d : Int} (hb : 0 < b) (hd : 0 < d) (h : a * d = c * b) : a / b = c / d := by
  have h1 : (a * d) / (b * d) = a / b := Int.mul_ediv_mul_of_pos_left a b hd
  have h2 : (c * b) / (d * b) = c / d := Int.mul_ediv_mul_of_pos_left c d hb
  rw [← h1, ← h2, h, Int.mul_comm d b]
theorem ceil_same {a b c d : Int} (hb : 0 < b) (hd : 0 < d) (h : a * d = c * b) : ceV (a, b) = ceV (c, d) := by
  have h' : -a * d = -c * b := by rw [Int.neg_mul, Int.neg_mul, h]
  have := ediv_same hb hd h'
  show -(-a / b) = -(-c / d)
  rw [this]
/-- The reference's start: the first corner. -/
def rbS (d : BdD) : Sp := ⟨flV (valR d.t (d.a.lo, d.b.lo)), ceV (valR d.t (d.a.lo, d.b.lo))⟩
def rbR (d : BdD) : Sp := rbRun (rbS d) ((cnL d).map (valR d.t))
theorem valR_same {d : BdD} (h : bdErr d = 0) {p : Int × Int} (x0 : d.a.lo ≤ p.1) (x1 : p.1 ≤ d.a.hi) (y0 : d.b.lo ≤ p.2) (y1 : p.2 ≤ d.b.hi) :
    (boundF d).lo ≤ flV (valR d.t p) ∧ ceV (valR d.t p) ≤ (boundF d).hi ∧ flV (valR d.t p) = flV (pqAt d.t p).v ∧ ceV (valR d.t p) = ceV (pqAt d.t p).v := by
  obtain ⟨ht, _, _, la, lb⟩ := bdErr_ok h
  obtain ⟨hax, hay, _⟩ := tbB_facts ht
  have a0 := la.1; have a1 := la.2; have b0 := lb.1; have b1 := lb.2
  have hx2 := axB_len hax; have hy2 := axB_len hay
  have iR := partN_in hx2.1 (x := p.1) (by omega) d.t.xs.length 0 (by omega) (by omega) (by omega)
  have kR := partN_in hy2.1 (x := p.2) (by omega) d.t.ys.length 0 (by omega) (by omega) (by omega)
  have hpos := Tb.den_pos (axB_asc hax) (axB_asc hay) iR kR
  obtain ⟨g1, g2⟩ := bound_pt h x0 x1 y0 y1
  have q1 := g1 _ _ iR kR
  have q2 := g2 _ _ iR kR
  obtain ⟨i, k, hi, hk, e, va⟩ := at_in h x0 x1 y0 y1
  have hs := Tb.same (axB_asc hax) (axB_asc hay) iR kR hi hk
  have hp2 := Tb.den_pos (axB_asc hax) (axB_asc hay) hi hk
  have e' : (pqAt d.t p).v = (d.t.num i k p.1 p.2, d.t.den i k) := e
  refine ⟨(Int.le_ediv_iff_mul_le hpos).2 q1, ?_, ?_, ?_⟩
  · have : -(boundF d).hi ≤ -d.t.num (partN d.t.xs p.1 d.t.xs.length 0) (partN d.t.ys p.2 d.t.ys.length 0) p.1 p.2 / d.t.den (partN d.t.xs p.1 d.t.xs.length 0) (partN d.t.ys p.2 d.t.ys.length 0) := by
      refine (Int.le_ediv_iff_mul_le hpos).2 ?_
      rw [Int.neg_mul]; omega
    show -(-_ / _) ≤ _
    simp only [valR]
    omega
  · rw [e']; exact ediv_same hpos hp2 hs
  · rw [e']; exact ceil_same hpos hp2 hs
theorem rbR_eq {d : BdD} (h : bdErr d = 0) : rbR d = boundF d := by
  obtain ⟨_, ha, hb, _⟩ := bdErr_ok h
  obtain ⟨m1, m2⟩ := exRun_mem ((cnL d).map (pqAt d.t)) exS0 (.inr fun e => cnL_ne d (by simpa using e))
  have h0 := valR_same h (p := (d.a.lo, d.b.lo)) (Int.le_refl _) ha.2.1 (Int.le_refl _) hb.2.1
  have hall : ∀ v ∈ (cnL d).map (valR d.t), (boundF d).lo ≤ flV v ∧ ceV v ≤ (boundF d).hi := by
    intro v hv
    obtain ⟨p, hp, rfl⟩ := List.mem_map.1 hv
    obtain ⟨c1, c2, c3, c4⟩ := corner_in h hp
    have := valR_same h c1 c2 c3 c4
    exact ⟨this.1, this.2.1⟩
  have el : (rbR d).lo = (boundF d).lo := by
    refine rbRun_lo _ _ _ h0.1 (fun v hv => (hall v hv).1) (.inl ?_)
    rcases m1 with m1 | ⟨m1, _⟩
    · obtain ⟨p, hp, e⟩ := List.mem_map.1 m1
      obtain ⟨c1, c2, c3, c4⟩ := corner_in h hp
      refine ⟨valR d.t p, List.mem_map.2 ⟨p, hp, rfl⟩, ?_⟩
      rw [(valR_same h c1 c2 c3 c4).2.2.1, e]
      rfl
    · cases m1
  have eh : (rbR d).hi = (boundF d).hi := by
    refine rbRun_hi _ _ _ h0.2.1 (fun v hv => (hall v hv).2) (.inl ?_)
    rcases m2 with m2 | ⟨m2, _⟩
    · obtain ⟨p, hp, e⟩ := List.mem_map.1 m2
      obtain ⟨c1, c2, c3, c4⟩ := corner_in h hp
      refine ⟨valR d.t p, List.mem_map.2 ⟨p, hp, rfl⟩, ?_⟩
      rw [(valR_same h c1 c2 c3 c4).2.2.2, e]
      rfl
    · cases m2
  cases hr : rbR d; cases hf : boundF d
  rw [hr, hf] at el eh
  simp only at el eh
  rw [el, eh]
end Go.Sx.Tab
end
section
/- Rotor: spans, tables that are looked up, the cells of a rotor in an air. No conditions. -/
set_option linter.unusedSimpArgs false
set_option linter.unusedSectionVars false
set_option maxRecDepth 100000
set_option maxHeartbeats 4000000
namespace Go.Sx.Rot
open Go.Proofs Go.Sx Go.Sx.Tab
attribute [local irreducible] HLe
attribute [local simp] hps_app

/-! a span -/
noncomputable abbrev vaS : PSpec := mkP spE (fun _ => True) fun f => .bool (!spN f)
noncomputable abbrev E74 : Env := { P := Tryz.prog, fn := tbl [(41, .pure bxkS)], own := [], key := 7400, nt := 7 }
theorem b74 : PureBody E74 [] Tryz.f74 vaS := by
  refine pb ?_
  rintro f _
  have hd : decC slE [.sl 2 [[.int .i64 f.lo, .int .i64 f.hi]]] = [f] := decC_eq slE_inj [f]
  have hw : withinB 1 1 3 = true := by decide
  cases h : spN f
  all_goals
    simp -dsimp [Tryz.f74, E74, Sp.row]
    repeat' (first | omega | (simp -dsimp [E74, ri, cellp, ints, Sp.row, hd, hw, h]) | (refine Also.intro ?_ fun _ => ?_) | (refine Hold.intro fun _ => ?_) | (refine And.intro ?_ ?_))
theorem ok74 : FnOK Tryz.prog 74 (.pure vaS) := pure_fn (E := E74) rfl (.cons ok41 .nil) (ok := []) (fn := Tryz.f74) (by kernel_rfl) (by kernel_rfl) (by kernel_rfl) (by kernel_rfl) rfl (fun _ _ => by simp) b74
noncomputable abbrev nvS : PSpec := mkP spE (fun _ => True) fun f => .bool (spN f)
noncomputable abbrev E76 : Env := { P := Tryz.prog, fn := tbl [(74, .pure vaS)], own := [], key := 7600, nt := 6 }
theorem b76 : PureBody E76 [] Tryz.f76 nvS := by
  refine pb ?_
  rintro f _
  simp -dsimp [Tryz.f76, E76, Sp.row]
  repeat' (first | omega | (simp -dsimp [E76, ri, cellp, ints, Sp.row, spE_dec]) | (refine Also.intro ?_ fun _ => ?_) | (refine Hold.intro fun _ => ?_) | (refine And.intro ?_ ?_))
theorem ok76 : FnOK Tryz.prog 76 (.pure nvS) := pure_fn (E := E76) rfl (.cons ok74 .nil) (ok := []) (fn := Tryz.f76) (by kernel_rfl) (by kernel_rfl) (by kernel_rfl) (by kernel_rfl) rfl (fun _ _ => by simp) b76

/-! a table that is looked up -/
def lkR (d : BdD) : List V := [ints d.t.xs, ints d.t.ys, .sl 1 (d.t.vs.map rwI), .int .i64 d.a.lo, .int .i64 d.a.hi, .int .i64 d.b.lo, .int .i64 d.b.hi]
theorem lkR_inj (a b : BdD) (h : lkR a = lkR b) : a = b := by
  obtain ⟨a1, ⟨a2, a3⟩, ⟨a4, a5⟩⟩ := a; obtain ⟨b1, ⟨b2, b3⟩, ⟨b4, b5⟩⟩ := b
  simp only [lkR, List.cons.injEq, V.int.injEq, true_and, and_true] at h
  have := tabR_inj a1 b1 (by simp only [tabR, List.cons.injEq, and_true]; exact ⟨h.1, h.2.1, h.2.2.1⟩)
  obtain ⟨_, _, _, rfl, rfl, rfl, rfl⟩ := h
  rw [this]
@[simp] def lkE (d : BdD) : List V := [.agg (lkR d)]
theorem lkE_inj (a b : BdD) (h : lkE a = lkE b) : a = b := lkR_inj _ _ (by simpa using h)
theorem lkE_dec (d : BdD) : decC lkE [.agg [.sl 1 (d.t.xs.map ri), .sl 1 (d.t.ys.map ri), .sl 1 (d.t.vs.map rwI), .int .i64 d.a.lo, .int .i64 d.a.hi, .int .i64 d.b.lo, .int .i64 d.b.hi]] = d := decC_eq lkE_inj d
structure LkP (d : BdD) : Prop where
  x0 : 0 < d.t.xs.length
  y0 : 0 < d.t.ys.length
  x1 : d.t.xs.length ≤ 1000000
  y1 : d.t.ys.length ≤ 1000000
def lkB (d : BdD) : Bool := lieB d.t.xs d.a && lieB d.t.ys d.b
noncomputable abbrev lkS : PSpec := mkP lkE LkP fun d => .bool (lkB d)
noncomputable abbrev E79 : Env := { P := Tryz.prog, fn := tbl [], own := [], key := 7900, nt := 55 }
theorem b79 : PureBody E79 [] Tryz.f79 lkS := by
  refine pb ?_
  rintro ⟨t, a, b⟩ ⟨h0, h1, h2, h3⟩
  simp only at h0 h1 h2 h3
  obtain ⟨x, hx, hx'⟩ := get_ex h0
  have hm : t.xs.length - 1 < t.xs.length := by omega
  obtain ⟨y, hy, hy'⟩ := get_ex hm
  have gx : t.xs.getD 0 0 = x := by simp [List.getD, hx]
  have gy : t.xs.getD (t.xs.length - 1) 0 = y := by simp [List.getD, hy]
  have wl : IntKind.wrap .i64 ((t.xs.length : Int) - 1) = (t.xs.length - 1 : Nat) := by rw [wrap_id (by omega) (by omega)]; omega
  obtain ⟨u, hu, hu'⟩ := get_ex h1
  have hn : t.ys.length - 1 < t.ys.length := by omega
  obtain ⟨v, hv, hv'⟩ := get_ex hn
  have gu : t.ys.getD 0 0 = u := by simp [List.getD, hu]
  have gv : t.ys.getD (t.ys.length - 1) 0 = v := by simp [List.getD, hv]
  have wm : IntKind.wrap .i64 ((t.ys.length : Int) - 1) = (t.ys.length - 1 : Nat) := by rw [wrap_id (by omega) (by omega)]; omega
  have hz : lkB ⟨t, a, b⟩ = ((decide (x ≤ a.lo) && decide (a.hi ≤ y)) && (decide (u ≤ b.lo) && decide (b.hi ≤ v))) := by rw [lkB, lieB, lieB, gx, gy, gu, gv]
  by_cases e1 : x ≤ a.lo <;> by_cases e2 : a.hi ≤ y <;> by_cases e3 : u ≤ b.lo
  all_goals
    simp -dsimp [Tryz.f79, E79, lkR]
    repeat' (first | omega | (simp -dsimp [E79, ri, cellp, ints, lkR, h0, h1, h2, h3, hx, hx', hm, hy, hy', wl, hu, hu', hn, hv, hv', wm, hz, e1, e2, e3]) | (refine Also.intro ?_ fun _ => ?_) | (refine Hold.intro fun _ => ?_) | (refine And.intro ?_ ?_))
theorem ok79 : FnOK Tryz.prog 79 (.pure lkS) := pure_fn (E := E79) rfl LOK.nil (ok := []) (fn := Tryz.f79) (by kernel_rfl) (by kernel_rfl) (by kernel_rfl) (by kernel_rfl) rfl (fun _ _ => by simp) b79
noncomputable abbrev nlS : PSpec := mkP lkE LkP fun d => .bool (!lkB d)
noncomputable abbrev E78 : Env := { P := Tryz.prog, fn := tbl [(79, .pure lkS)], own := [], key := 7800, nt := 6 }
theorem b78 : PureBody E78 [] Tryz.f78 nlS := by
  refine pb ?_
  rintro ⟨t, a, b⟩ hP
  have hd := lkE_dec ⟨t, a, b⟩
  simp only at hd
  simp -dsimp [Tryz.f78, E78, lkR]
  repeat' (first | omega | (simp -dsimp [E78, ri, cellp, ints, lkR, hP, hd]) | (refine Also.intro ?_ fun _ => ?_) | (refine Hold.intro fun _ => ?_) | (refine And.intro ?_ ?_))
theorem ok78 : FnOK Tryz.prog 78 (.pure nlS) := pure_fn (E := E78) rfl (.cons ok79 .nil) (ok := []) (fn := Tryz.f78) (by kernel_rfl) (by kernel_rfl) (by kernel_rfl) (by kernel_rfl) rfl (fun _ _ => by simp) b78
def bndF (d : BdD) : Sp := if bdErr d = 0 then boundF d else ⟨0, 0⟩
noncomputable abbrev bnS : PSpec := mkP lkE (fun d => TbP d.t) fun d => .agg (bndF d).row
noncomputable abbrev E47 : Env := { P := Tryz.prog, fn := tbl [(80, .pure bouS)], own := [], key := 4700, nt := 16 }
theorem b47 : PureBody E47 [] Tryz.f47 bnS := by
  refine pb ?_
  rintro ⟨t, a, b⟩ hP
  have hP : TbP t := hP
  have hd := bdE_dec t a b
  by_cases h0 : bdErr ⟨t, a, b⟩ = 0
  · have hz : bndF ⟨t, a, b⟩ = boundF ⟨t, a, b⟩ := by simp [bndF, h0]
    simp -dsimp [Tryz.f47, E47, lkR]
    repeat' (first | omega | (simp -dsimp [E47, ri, cellp, ints, lkR, hP, hd, h0, hz, Sp.row]) | (refine Also.intro ?_ fun _ => ?_) | (refine Hold.intro fun _ => ?_) | (refine And.intro ?_ ?_))
  · have hz : bndF ⟨t, a, b⟩ = ⟨0, 0⟩ := by simp [bndF, h0]
    simp -dsimp [Tryz.f47, E47, lkR]
    repeat' (first | omega | (simp -dsimp [E47, ri, cellp, ints, lkR, hP, hd, h0, hz, Sp.row]) | (refine Also.intro ?_ fun _ => ?_) | (refine Hold.intro fun _ => ?_) | (refine And.intro ?_ ?_))
theorem ok47 : FnOK Tryz.prog 47 (.pure bnS) := pure_fn (E := E47) rfl (.cons ok80 .nil) (ok := []) (fn := Tryz.f47) (by kernel_rfl) (by kernel_rfl) (by kernel_rfl) (by kernel_rfl) rfl (fun _ _ => by simp) b47
end Go.Sx.Rot
end
