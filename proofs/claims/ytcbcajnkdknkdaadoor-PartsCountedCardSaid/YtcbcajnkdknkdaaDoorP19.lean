/- A part of a proof; no conditions. -/
import Derived.Test.YtcbcajnkdknkdaaDoorP18
set_option linter.unusedSimpArgs false
set_option linter.unusedVariables false
set_option linter.unusedSectionVars false
section
/- Parts: the greatest range of a series' cycles is its greatest load less its least (the series). -/
set_option linter.unusedSimpArgs false
set_option linter.unusedSectionVars false
namespace Go.Sx
/-- A pile's first two are its hull. -/
theorem ZS.top {Q : List Int} {lo hi : Int} (h : ZS Q) (hI : ZI Q lo hi) (h2 : 2 ≤ Q.length) : dist (Q.getD 1 0) (Q.getD 0 0) = hi - lo := by
  obtain ⟨s1, s2⟩ := h
  obtain ⟨i1, ⟨a, al, av⟩, ⟨b, bl, bv⟩⟩ := hI
  have c0 := i1 0 (by omega)
  have c1 := i1 1 (by omega)
  have s2 := s2 h2
  have ha : a < 2 := by
    rcases Nat.lt_or_ge a 2 with k | k
    · exact k
    · have t := s1 (a - 2) (by omega)
      rw [show a - 2 + 1 = a - 1 by omega, show a - 2 + 2 = a by omega] at t
      have d0 := i1 (a - 2) (by omega)
      have d1 := i1 (a - 1) (by omega)
      unfold Btw at t; omega
  have hb : b < 2 := by
    rcases Nat.lt_or_ge b 2 with k | k
    · exact k
    · have t := s1 (b - 2) (by omega)
      rw [show b - 2 + 1 = b - 1 by omega, show b - 2 + 2 = b by omega] at t
      have d0 := i1 (b - 2) (by omega)
      have d1 := i1 (b - 1) (by omega)
      unfold Btw at t; omega
  unfold dist
  have ha : a = 0 ∨ a = 1 := by omega
  have hb : b = 0 ∨ b = 1 := by omega
  rcases ha with e | e <;> rcases hb with f | f <;> subst e <;> subst f <;> omega
/-- The loads go up and down by turns. -/
def AltF : Bool → Int → List Int → Prop
  | _, _, [] => True
  | up, x, p :: r => (if up = true then x < p else p < x) ∧ AltF (!up) p r
theorem ZI.le {Q : List Int} {lo hi : Int} (h : ZI Q lo hi) : lo ≤ hi := by
  obtain ⟨i1, ⟨a, al, av⟩, -⟩ := h
  have := i1 a al; omega
theorem ZI.snoc {Q : List Int} {lo hi : Int} (h : ZI Q lo hi) (p : Int) : ZI (Q ++ [p]) (min lo p) (max hi p) := by
  have hle := h.le
  obtain ⟨i1, ⟨a, al, av⟩, ⟨b, bl, bv⟩⟩ := h
  have g : ∀ i, i < Q.length → (Q ++ [p]).getD i 0 = Q.getD i 0 := fun i hk => by simp only [List.getD]; rw [List.getElem?_append_left hk]
  have g' : (Q ++ [p]).getD Q.length 0 = p := by simp [List.getD]
  have gl : (Q ++ [p]).length = Q.length + 1 := by simp
  refine ⟨fun i hk => ?_, ?_, ?_⟩
  · by_cases e : i < Q.length
    · rw [g i e]; have := i1 i e; omega
    · rw [show i = Q.length by omega, g']; omega
  · by_cases e : lo ≤ p
    · exact ⟨a, by omega, by rw [g a al, av]; omega⟩
    · exact ⟨Q.length, by omega, by rw [g']; omega⟩
  · by_cases e : p ≤ hi
    · exact ⟨b, by omega, by rw [g b bl, bv]; omega⟩
    · exact ⟨Q.length, by omega, by rw [g']; omega⟩
theorem cyc_hull : ∀ (r Q : List Int) (lo hi : Int) (up : Bool), ZS Q → ZI Q lo hi → 1 ≤ Q.length → ZD Q (!up) → AltF up (Q.getD (Q.length - 1) 0) r →
    (∀ c ∈ cyc r Q, c.1 ≤ r.foldl max hi - r.foldl min lo) ∧ (2 ≤ Q.length ∨ r ≠ [] → ∃ c ∈ cyc r Q, c.1 = r.foldl max hi - r.foldl min lo)
  | [], Q, lo, hi, up, hS, hI, h1, hD, hA => by
    simp only [cyc, List.foldl_nil, tailC]
    refine ⟨fun c hc => ?_, fun h => ?_⟩
    · obtain ⟨i, hi', rfl⟩ := List.mem_map.1 hc
      have hi' := List.mem_range.1 hi'
      have a := hI.1 i (by omega)
      have b := hI.1 (i + 1) (by omega)
      simp only [dist]; omega
    · have h2 : 2 ≤ Q.length := by rcases h with h | h; exact h; exact absurd rfl h
      exact ⟨_, List.mem_map.2 ⟨0, List.mem_range.2 (by omega), rfl⟩, hS.top hI h2⟩
  | p :: r, Q, lo, hi, up, hS, hI, h1, hD, hA => by
    obtain ⟨hA1, hA2⟩ := hA
    have g : ∀ i, i < Q.length → (Q ++ [p]).getD i 0 = Q.getD i 0 := fun i hk => by simp only [List.getD]; rw [List.getElem?_append_left hk]
    have g' : (Q ++ [p]).getD Q.length 0 = p := by simp [List.getD]
    have gl : (Q ++ [p]).length = Q.length + 1 := by simp
    have hu : up = true ↔ Q.getD (Q.length - 1) 0 < p := by cases up <;> simp at hA1 <;> simp <;> omega
    have hne : Q.getD (Q.length - 1) 0 ≠ p := by cases up <;> simp only [Bool.false_eq_true, if_false, if_true] at hA1 <;> omega
    have hJ : ZJ (Q ++ [p]) := by
      refine ⟨fun i hk => ?_, fun hk => ?_, fun hk => ?_⟩
      · rw [g _ (by omega), g _ (by omega), g _ (by omega)]; exact hS.1 i (by omega)
      · by_cases e : Q.length = 1
        · have e1 : (1 : Nat) = Q.length := by omega
          rw [g 0 (by omega)]
          have : (Q ++ [p]).getD 1 0 = p := by rw [e1, g']
          rw [this]
          rw [e] at hne
          exact hne
        · rw [g 0 (by omega), g 1 (by omega)]; exact hS.2 (by omega)
      · rw [gl, show Q.length + 1 - 3 = Q.length - 2 by omega, show Q.length + 1 - 2 = Q.length - 1 by omega, show Q.length + 1 - 1 = Q.length by omega, g', g _ (by omega), g _ (by omega)]
        have hd := hD (by omega)
        have hx : Q.getD (Q.length - 2) 0 ≠ Q.getD (Q.length - 1) 0 := by
          by_cases e : Q.length = 2
          · rw [e]; exact hS.2 (by omega)
          · have := hS.1 (Q.length - 3) (by omega)
            rw [show Q.length - 3 + 1 = Q.length - 2 by omega, show Q.length - 3 + 2 = Q.length - 1 by omega] at this
            unfold Btw at this; omega
        unfold Trn
        cases up
        · simp only [Bool.not_false, Bool.not_true, Bool.false_eq_true, true_iff, false_iff] at hd hu; omega
        · simp only [Bool.not_false, Bool.not_true, Bool.false_eq_true, true_iff, false_iff] at hd hu; omega
    have hr := red_hull _ (Q ++ [p]) rfl (by omega) hJ (hI.snoc p) (up := up) (fun _ => by
      rw [gl, show Q.length + 1 - 2 = Q.length - 1 by omega, show Q.length + 1 - 1 = Q.length by omega, g', g _ (by omega)]; exact hu)
    have hn := cyc_hull r (red (Q ++ [p])).2 (min lo p) (max hi p) (!up) hr.s hr.i hr.n (by rw [Bool.not_not]; exact hr.d) (by rw [hr.l, gl, show Q.length + 1 - 1 = Q.length by omega, g']; exact hA2)
    have hm := hr.m (by omega)
    simp only [cyc, List.foldl_cons]
    have hmono : ∀ (r : List Int) (a : Int), a ≤ r.foldl max a ∧ r.foldl min a ≤ a := by
      intro r
      induction r with
      | nil => intro a; simp
      | cons x r ih =>
        intro a
        have h1 := (ih (max a x)).1
        have h2 := (ih (min a x)).2
        simp only [List.foldl_cons]
        omega
    have m1 := (hmono r (max hi p)).1
    have m2 := (hmono r (min lo p)).2
    refine ⟨fun c hc => ?_, fun _ => ?_⟩
    · rcases List.mem_append.1 hc with hc | hc
      · have := hr.c c hc; omega
      · exact hn.1 c hc
    · obtain ⟨c, hc, e⟩ := hn.2 (.inl hm)
      exact ⟨c, List.mem_append.2 (.inr hc), e⟩
/-- A turned series goes up and down by turns. -/
def ZA (o : List Int) : Prop := (∀ i, i + 2 < o.length → Trn (o.getD i 0) (o.getD (i + 1) 0) (o.getD (i + 2) 0)) ∧ (2 ≤ o.length → o.getD 0 0 ≠ o.getD 1 0)
theorem ZA.last {o : List Int} (h : ZA o) (h2 : 2 ≤ o.length) : o.getD (o.length - 2) 0 ≠ o.getD (o.length - 1) 0 := by
  by_cases e : o.length = 2
  · rw [e]; exact h.2 h2
  · have := h.1 (o.length - 3) (by omega)
    rw [show o.length - 3 + 1 = o.length - 2 by omega, show o.length - 3 + 2 = o.length - 1 by omega] at this
    unfold Trn at this; omega
theorem tpush_ZA {o : List Int} (h : ZA o) (n : Int) : ZA (tpush o n) := by
  unfold tpush
  split
  · exact h
  · rename_i h1
    split
    · rename_i h2
      obtain ⟨h3, h4⟩ := h2
      have h4 := decide_eq_decide.1 h4
      have hl := h.last (by omega)
      have h5 : o.getD (o.length - 1) 0 ≠ n := fun e => h1 ⟨by omega, e⟩
      have gl : (o.set (o.length - 1) n).length = o.length := by simp
      have g : ∀ i, i ≠ o.length - 1 → (o.set (o.length - 1) n).getD i 0 = o.getD i 0 := fun i hk => gset_ne (by omega)
      have g' : (o.set (o.length - 1) n).getD (o.length - 1) 0 = n := gset_eq (by omega)
      generalize o.set (o.length - 1) n = R at *
      refine ⟨fun i hk => ?_, fun hk => ?_⟩
      · by_cases e : i + 3 = o.length
        · have t := h.1 i (by omega)
          rw [g i (by omega), g (i + 1) (by omega), show i + 2 = o.length - 1 by omega, g']
          rw [show i + 2 = o.length - 1 by omega] at t
          rw [show o.length - 2 = i + 1 by omega] at h4 hl
          unfold Trn at *; omega
        · rw [g i (by omega), g (i + 1) (by omega), g (i + 2) (by omega)]; exact h.1 i (by omega)
      · by_cases e : o.length = 2
        · rw [e] at g g' h4 hl h5
          have a := g 0 (by omega)
          simp only [Nat.reduceSub] at g' h4 hl h5
          rw [a, g']; omega
        · rw [g 0 (by omega), g 1 (by omega)]; exact h.2 (by omega)
    · rename_i h2
      have gl : (o ++ [n]).length = o.length + 1 := by simp
      have g : ∀ i, i < o.length → (o ++ [n]).getD i 0 = o.getD i 0 := fun i hk => by simp only [List.getD]; rw [List.getElem?_append_left hk]
      have g' : (o ++ [n]).getD o.length 0 = n := by simp [List.getD]
      have h5 : 0 < o.length → o.getD (o.length - 1) 0 ≠ n := fun k e => h1 ⟨k, e⟩
      generalize o ++ [n] = R at *
      refine ⟨fun i hk => ?_, fun hk => ?_⟩
      · by_cases e : i + 2 = o.length
        · have h4 : ¬ (o.getD (o.length - 2) 0 < o.getD (o.length - 1) 0 ↔ o.getD (o.length - 1) 0 < n) := fun e => h2 ⟨by omega, decide_eq_decide.2 e⟩
          have hl := h.last (by omega)
          have h5 := h5 (by omega)
          rw [g i (by omega), g (i + 1) (by omega), e, g']
          rw [show o.length - 2 = i by omega, show o.length - 1 = i + 1 by omega] at h4 hl
          rw [show o.length - 1 = i + 1 by omega] at h5
          unfold Trn; omega
        · rw [g i (by omega), g (i + 1) (by omega), g (i + 2) (by omega)]; exact h.1 i (by omega)
      · by_cases e : o.length = 1
        · have h5 := h5 (by omega)
          rw [e] at g' h5
          rw [g 0 (by omega), g']; exact h5
        · rw [g 0 (by omega), g 1 (by omega)]; exact h.2 (by omega)
theorem tpush_ZI {o : List Int} (hz : ZA o) {lo hi : Int} (h : ZI o lo hi) (n : Int) : ZI (tpush o n) (min lo n) (max hi n) := by
  have hle := h.le
  unfold tpush
  split
  · rename_i h1
    obtain ⟨h1, e⟩ := h1
    have b := h.1 (o.length - 1) (by omega)
    rw [e] at b
    rw [show min lo n = lo by omega, show max hi n = hi by omega]; exact h
  · rename_i h1
    split
    · rename_i h2
      obtain ⟨h3, h4⟩ := h2
      have h4 := decide_eq_decide.1 h4
      have hl := hz.last (by omega)
      have h5 : o.getD (o.length - 1) 0 ≠ n := fun e => h1 ⟨by omega, e⟩
      have gl : (o.set (o.length - 1) n).length = o.length := by simp
      have g : ∀ i, i ≠ o.length - 1 → (o.set (o.length - 1) n).getD i 0 = o.getD i 0 := fun i hk => gset_ne (by omega)
      have g' : (o.set (o.length - 1) n).getD (o.length - 1) 0 = n := gset_eq (by omega)
      generalize o.set (o.length - 1) n = R at *
      obtain ⟨i1, ⟨a, al, av⟩, ⟨b, bl, bv⟩⟩ := h
      have c0 := i1 (o.length - 2) (by omega)
      have c1 := i1 (o.length - 1) (by omega)
      refine ⟨fun i hk => ?_, ?_, ?_⟩
      · by_cases e : i = o.length - 1
        · rw [e, g']; omega
        · rw [g i e]; have := i1 i (by omega); omega
      · by_cases e : lo ≤ n
        · by_cases e2 : a = o.length - 1
          · rw [e2] at av
            exact ⟨o.length - 1, by omega, by rw [g']; omega⟩
          · exact ⟨a, by omega, by rw [g a e2]; omega⟩
        · exact ⟨o.length - 1, by omega, by rw [g']; omega⟩
      · by_cases e : n ≤ hi
        · by_cases e2 : b = o.length - 1
          · rw [e2] at bv
            exact ⟨o.length - 1, by omega, by rw [g']; omega⟩
          · exact ⟨b, by omega, by rw [g b e2]; omega⟩
        · exact ⟨o.length - 1, by omega, by rw [g']; omega⟩
    · exact h.snoc n
theorem turn_hull (x : Int) (l : List Int) : ZA (turn (x :: l)) ∧ ZI (turn (x :: l)) (l.foldl min x) (l.foldl max x) := by
  have key : ∀ (l o : List Int) (lo hi : Int), ZA o → ZI o lo hi → ZA (l.foldl tpush o) ∧ ZI (l.foldl tpush o) (l.foldl min lo) (l.foldl max hi) := by
    intro l
    induction l with
    | nil => intro o lo hi h1 h2; exact ⟨h1, h2⟩
    | cons p l ih => intro o lo hi h1 h2; exact ih _ _ _ (tpush_ZA h1 p) (tpush_ZI h1 h2 p)
  refine key l [x] x x ⟨fun i hk => ?_, fun hk => ?_⟩ ⟨fun i hk => ?_, ⟨0, by simp, rfl⟩, ⟨0, by simp, rfl⟩⟩
  · simp at hk
  · simp at hk
  · have : i = 0 := by simp at hk; omega
    subst this; simp
theorem ZA.tail {x : Int} {r : List Int} (h : ZA (x :: r)) : ZA r := by
  have g : ∀ i, (x :: r).getD (i + 1) 0 = r.getD i 0 := fun i => by simp [List.getD]
  have gl : (x :: r).length = r.length + 1 := rfl
  refine ⟨fun i hk => ?_, fun hk => ?_⟩
  · have := h.1 (i + 1) (by omega)
    rwa [g, show i + 1 + 1 = (i + 1) + 1 from rfl, g, show i + 1 + 2 = (i + 2) + 1 by omega, g] at this
  · have := h.1 0 (by omega)
    rw [show (0 : Nat) + 1 = 0 + 1 from rfl, g, show (0 : Nat) + 2 = 1 + 1 from rfl, g] at this
    unfold Trn at this; omega
theorem ZA.alt : ∀ (r : List Int) (x p : Int) (up : Bool), ZA (x :: p :: r) → (up = true ↔ x < p) → AltF up x (p :: r)
  | [], x, p, up, h, hu => by
    have := h.2 (by simp)
    have : x ≠ p := this
    refine ⟨?_, trivial⟩
    cases up
    · have : ¬ x < p := fun e => absurd (hu.2 e) (by simp)
      simp only [Bool.false_eq_true, if_false]; omega
    · simp only [if_true]; exact hu.1 rfl
  | q :: r, x, p, up, h, hu => by
    have t := h.1 0 (by simp)
    have t : Trn x p q := t
    have hr := ZA.alt r p q (!up) h.tail (by unfold Trn at t; cases up <;> simp at hu ⊢ <;> omega)
    refine ⟨?_, hr⟩
    unfold Trn at t
    cases up
    · have : ¬ x < p := fun e => absurd (hu.2 e) (by simp)
      simp only [Bool.false_eq_true, if_false]; omega
    · simp only [if_true]; exact hu.1 rfl
theorem ZI.uniq {o : List Int} {a b c d : Int} (h : ZI o a b) (k : ZI o c d) : a = c ∧ b = d := by
  obtain ⟨h1, ⟨i, i1, i2⟩, ⟨j, j1, j2⟩⟩ := h
  obtain ⟨k1, ⟨m, m1, m2⟩, ⟨n, n1, n2⟩⟩ := k
  have := h1 m m1; have := h1 n n1; have := k1 i i1; have := k1 j j1
  omega
theorem ZI.fold : ∀ (r o : List Int) (lo hi : Int), ZI o lo hi → ZI (o ++ r) (r.foldl min lo) (r.foldl max hi)
  | [], o, lo, hi, h => by rw [List.append_nil]; exact h
  | p :: r, o, lo, hi, h => by
    have := ZI.fold r (o ++ [p]) _ _ (h.snoc p)
    rw [List.append_assoc] at this
    exact this
theorem ZI.one (x : Int) : ZI [x] x x := by
  refine ⟨fun i hk => ?_, ⟨0, by simp, rfl⟩, ⟨0, by simp, rfl⟩⟩
  have : i = 0 := by simp at hk; omega
  subst this; simp
/-- The greatest range is the greatest load less the least; where one load alone turns there is no cycle. -/
theorem cycles_top (x : Int) (l : List Int) :
    (∀ c ∈ cycles (x :: l), c.1 ≤ l.foldl max x - l.foldl min x) ∧
    ((∃ c ∈ cycles (x :: l), c.1 = l.foldl max x - l.foldl min x) ∨ (cycles (x :: l) = [] ∧ l.foldl max x = l.foldl min x)) := by
  obtain ⟨hz, hi⟩ := turn_hull x l
  unfold cycles
  cases ht : turn (x :: l) with
  | nil =>
    rw [ht] at hi
    obtain ⟨-, ⟨i, i1, -⟩, -⟩ := hi
    simp at i1
  | cons t r =>
    rw [ht] at hz hi
    have hu := hi.uniq (ZI.fold r [t] t t (ZI.one t))
    rw [hu.1, hu.2]
    have hc : cyc (t :: r) [] = cyc r [t] := by
      simp only [cyc, List.nil_append]
      rw [red_small (by simp)]; simp
    rw [hc]
    cases r with
    | nil =>
      simp [cyc, tailC]
    | cons p r =>
      have ha := hz.alt r t p (decide (t < p)) (by simp)
      have hn := cyc_hull (p :: r) [t] t t (decide (t < p)) ⟨fun i hk => by simp at hk, fun hk => by simp at hk⟩ (ZI.one t) (by simp) (fun hk => by simp at hk) ha
      exact ⟨hn.1, .inl (hn.2 (.inr (by simp)))⟩
end Go.Sx
end
section
/- Parts: the law about the cycles without the reference. No conditions. -/
set_option linter.unusedSimpArgs false
set_option linter.unusedSectionVars false
set_option maxRecDepth 100000
set_option maxHeartbeats 2000000
namespace Go.Sx
open Go.Proofs
attribute [local irreducible] HLe
attribute [local simp] hps_app

def hsTo (T : List (Int × Int)) (k : Nat) : Int := hsum (T.take k)
def tpTo (T : List (Int × Int)) : Nat → Int
  | 0 => 0
  | k + 1 => if tpTo T k < (T.getD k (0, 0)).1 then (T.getD k (0, 0)).1 else tpTo T k
def loTo (l : List Int) : Nat → Int
  | 0 => l.getD 0 0
  | k + 1 => if l.getD k 0 < loTo l k then l.getD k 0 else loTo l k
def hiTo (l : List Int) : Nat → Int
  | 0 => l.getD 0 0
  | k + 1 => if hiTo l k < l.getD k 0 then l.getD k 0 else hiTo l k
def twTo (l : List Int) (at_ : Int) : Nat → List Int
  | 0 => []
  | k + 1 => twTo l at_ k ++ (if (k : Int) = at_ then [l.getD k 0, l.getD k 0] else [l.getD k 0])
def coH (q b : Int) (mi tw : List Int) : Hp := hps [(303, { base := 0, blks := [{ z := 2, els := [[.int .i64 q, .int .i64 b]], ty := 24 }] }), (411, { base := 0, blks := [{ z := 1, els := mi.map ri, ty := 3 }] }), (418, { base := 0, blks := [{ z := 1, els := tw.map ri, ty := 3 }] })] noH
theorem toInts_rows2 (l : List Int) : (V.sl 1 (l.map ri)).toInts = l := toInts_ints l
def mnTo (l : List Int) (k : Nat) : List Int := (l.take k).map fun x => -x
def adTo (l : List Int) (a : Int) (k : Nat) : List Int := (l.take k).map fun x => x + a
theorem loTo_fold (l : List Int) : ∀ k, k ≤ l.length → loTo l k = (l.take k).foldl min (l.getD 0 0) := by
  intro k
  induction k with
  | zero => intro _; simp [loTo]
  | succ k ih =>
    intro hk
    have e : l.getD k 0 = l[k] := by simp [List.getD, List.getElem?_eq_getElem (show k < l.length by omega)]
    rw [List.take_add_one, List.getElem?_eq_getElem (by omega), List.foldl_append, ← ih (by omega)]
    simp only [loTo, e, Option.toList, List.foldl_cons, List.foldl_nil]
    split <;> omega
theorem hiTo_fold (l : List Int) : ∀ k, k ≤ l.length → hiTo l k = (l.take k).foldl max (l.getD 0 0) := by
  intro k
  induction k with
  | zero => intro _; simp [hiTo]
  | succ k ih =>
    intro hk
    have e : l.getD k 0 = l[k] := by simp [List.getD, List.getElem?_eq_getElem (show k < l.length by omega)]
    rw [List.take_add_one, List.getElem?_eq_getElem (by omega), List.foldl_append, ← ih (by omega)]
    simp only [hiTo, e, Option.toList, List.foldl_cons, List.foldl_nil]
    split <;> omega
theorem fold_bd : ∀ (r : List Int) (a b : Int), (r.foldl min a ≤ a ∧ b ≤ r.foldl max b) ∧ ∀ y ∈ r, r.foldl min a ≤ y ∧ y ≤ r.foldl max b
  | [], a, b => by simp
  | x :: r, a, b => by
    obtain ⟨h1, h2⟩ := fold_bd r (min a x) (max b x)
    simp only [List.foldl_cons]
    refine ⟨by omega, fun y hy => ?_⟩
    rcases List.mem_cons.1 hy with e | hy
    · subst e; omega
    · exact h2 y hy
theorem lohi_all (l : List Int) : ∀ y ∈ l, loTo l l.length ≤ y ∧ y ≤ hiTo l l.length := by
  intro y hy
  rw [loTo_fold l _ (Nat.le_refl _), hiTo_fold l _ (Nat.le_refl _), List.take_length]
  exact (fold_bd l _ _).2 y hy
theorem tpTo_spec (T : List (Int × Int)) : ∀ k, k ≤ T.length → (∀ c ∈ T.take k, c.1 ≤ tpTo T k) ∧ (tpTo T k = 0 ∨ ∃ c ∈ T.take k, c.1 = tpTo T k) ∧ 0 ≤ tpTo T k := by
  intro k
  induction k with
  | zero => intro _; simp [tpTo]
  | succ k ih =>
    intro hk
    obtain ⟨h1, h2, h3⟩ := ih (by omega)
    have e : T.getD k (0, 0) = T[k] := by simp [List.getD, List.getElem?_eq_getElem (show k < T.length by omega)]
    rw [List.take_add_one, List.getElem?_eq_getElem (by omega)]
    simp only [tpTo, e, Option.toList]
    refine ⟨fun c hc => ?_, ?_, by split <;> omega⟩
    · rcases List.mem_append.1 hc with hc | hc
      · have := h1 c hc; split <;> omega
      · have hc := List.mem_singleton.1 hc
        subst hc; split <;> omega
    · split
      · exact .inr ⟨T[k], List.mem_append_right _ (List.mem_singleton.2 rfl), rfl⟩
      · rcases h2 with h2 | ⟨c, hc, h2⟩
        · exact .inl h2
        · exact .inr ⟨c, List.mem_append_left _ hc, h2⟩
theorem tp_top {l : List Int} (h : 0 < l.length) : tpTo (cycles l) (cycles l).length = hiTo l l.length - loTo l l.length := by
  cases l with
  | nil => simp at h
  | cons x r =>
    have hlo : loTo (x :: r) (x :: r).length = r.foldl min x := by
      rw [loTo_fold _ _ (Nat.le_refl _), List.take_length]; simp
    have hhi : hiTo (x :: r) (x :: r).length = r.foldl max x := by
      rw [hiTo_fold _ _ (Nat.le_refl _), List.take_length]; simp
    rw [hlo, hhi]
    obtain ⟨h1, h2⟩ := cycles_top x r
    obtain ⟨t1, t2, t3⟩ := tpTo_spec (cycles (x :: r)) _ (Nat.le_refl _)
    rw [List.take_length] at t1 t2
    have hb := (fold_bd r x x).1
    rcases h2 with ⟨c, hc, e⟩ | ⟨e, e2⟩
    · have := t1 c hc
      rcases t2 with t2 | ⟨d, hd, t2⟩
      · omega
      · have := h1 d hd; omega
    · rw [e]; simp [tpTo]; omega
theorem serE_zero {l : List Int} (h : l.length ≤ 300) (hb : ∀ y ∈ l, -1000000 ≤ y ∧ y ≤ 1000000) : serE l = 0 := by
  unfold serE
  rw [if_neg (by omega), if_pos]
  unfold allB
  rw [List.all_eq_true]
  intro y hy
  have := hb y hy
  simp [withinB]; omega
theorem tw_eq (l : List Int) (b : Int) : ∀ k, k ≤ l.length → (¬ (0 ≤ b ∧ b < k) → twTo l b k = l.take k) ∧ (∀ i : Nat, b = i → i < k → twTo l b k = l.take i ++ [l.getD i 0, l.getD i 0] ++ (l.take k).drop (i + 1)) := by
  intro k
  induction k with
  | zero => intro _; exact ⟨fun _ => by simp [twTo], fun i _ h => by omega⟩
  | succ k ih =>
    intro hk
    obtain ⟨h1, h2⟩ := ih (by omega)
    have e : l.getD k 0 = l[k] := by simp [List.getD, List.getElem?_eq_getElem (show k < l.length by omega)]
    have et : l.take (k + 1) = l.take k ++ [l[k]] := by rw [List.take_add_one, List.getElem?_eq_getElem (by omega)]; rfl
    refine ⟨fun h => ?_, fun i hi hk2 => ?_⟩
    · rw [twTo, if_neg (by omega), h1 (by omega), e, et]
    · by_cases hik : i = k
      · subst hik
        rw [twTo, if_pos hi.symm, h1 (by omega)]
        have : (l.take (i + 1)).drop (i + 1) = [] := List.drop_of_length_le (by simp; omega)
        rw [this]; simp
      · rw [twTo, if_neg (by omega), h2 i hi (by omega), et, List.drop_append_of_le_length (by simp; omega), e]; simp
theorem tw_cycles (l : List Int) (b : Int) : cycles (twTo l b l.length) = cycles l ∧ (twTo l b l.length).length ≤ l.length + 1 ∧ ∀ y ∈ twTo l b l.length, y ∈ l := by
  obtain ⟨h1, h2⟩ := tw_eq l b l.length (Nat.le_refl _)
  by_cases h : 0 ≤ b ∧ b < l.length
  · have hi : b.toNat < l.length := by omega
    have e : l.getD b.toNat 0 = l[b.toNat] := by simp [List.getD, List.getElem?_eq_getElem hi]
    have hs : l = l.take b.toNat ++ [l[b.toNat]] ++ l.drop (b.toNat + 1) := by
      have : l.drop b.toNat = l[b.toNat] :: l.drop (b.toNat + 1) := List.drop_eq_getElem_cons hi
      rw [List.append_assoc, List.singleton_append, ← this, List.take_append_drop]
    rw [h2 b.toNat (by omega) hi, List.take_length, e]
    refine ⟨by rw [cycles_twice, ← hs], by simp; omega, fun y hy => ?_⟩
    rcases List.mem_append.1 hy with hy | hy
    · rcases List.mem_append.1 hy with hy | hy
      · exact List.mem_of_mem_take hy
      · simp at hy; subst hy; exact List.getElem_mem hi
    · exact List.mem_of_mem_drop hy
  · rw [h1 h, List.take_length]; exact ⟨rfl, by omega, fun y hy => hy⟩
theorem foldAt : ∀ (r : List Int) (a : Int), (r.foldl min a = a ∨ r.foldl min a ∈ r) ∧ (r.foldl max a = a ∨ r.foldl max a ∈ r)
  | [], a => by simp
  | x :: r, a => by
    obtain ⟨h1, -⟩ := foldAt r (min a x)
    obtain ⟨-, h2⟩ := foldAt r (max a x)
    simp only [List.foldl_cons, List.mem_cons]
    constructor
    · rcases h1 with h1 | h1
      · rw [h1]; omega
      · exact .inr (.inr h1)
    · rcases h2 with h2 | h2
      · rw [h2]; omega
      · exact .inr (.inr h2)
theorem loAttain {l : List Int} (h : 0 < l.length) : loTo l l.length ∈ l := by
  rw [loTo_fold l _ (Nat.le_refl _), List.take_length]
  have e : l.getD 0 0 ∈ l := by
    have : l.getD 0 0 = l[0] := by simp [List.getD, List.getElem?_eq_getElem h]
    rw [this]; exact List.getElem_mem h
  rcases (foldAt l (l.getD 0 0)).1 with k | k
  · rw [k]; exact e
  · exact k
theorem hiAttain {l : List Int} (h : 0 < l.length) : hiTo l l.length ∈ l := by
  rw [hiTo_fold l _ (Nat.le_refl _), List.take_length]
  have e : l.getD 0 0 ∈ l := by
    have : l.getD 0 0 = l[0] := by simp [List.getD, List.getElem?_eq_getElem h]
    rw [this]; exact List.getElem_mem h
  rcases (foldAt l (l.getD 0 0)).2 with k | k
  · rw [k]; exact e
  · exact k
structure CoD where
  l : List Int
  a : Int
  b : Int
  deriving Inhabited
@[simp] def coE (d : CoD) : List V := [ints d.l, .agg [.int .i64 d.a, .int .i64 d.b]]
theorem coE_inj (x y : CoD) (h : coE x = coE y) : x = y := by
  obtain ⟨l, a, b⟩ := x; obtain ⟨l', a', b'⟩ := y
  simp only [coE, List.cons.injEq, V.agg.injEq, V.int.injEq, true_and, and_true] at h
  rw [ints_inj h.1, h.2.1, h.2.2]
noncomputable abbrev lawCoS : PSpec := mkP coE (fun d => d.l.length ≤ 9223372036854775807) fun _ => .bool true
noncomputable abbrev E3 : Env := { P := Tryd.prog, fn := tbl [(15, .pure worksS), (16, .pure CyclesS), (17, .pure turnS), (18, .pure samePS)], own := [], key := 300, nt := 217, frz := [(31, [13]), (32, [14]), (41, [12])] }
theorem b3 : PureBody E3 [] Tryd.f3 lawCoS := by
  refine pb ?_
  rintro ⟨l, a, b⟩ hl
  simp only at hl
  by_cases hlen : 300 ≤ l.length
  · have hli : (300 : Int) ≤ l.length := by omega
    simp -dsimp [Tryd.f3, E3]
    repeat' (first | omega | (simp -dsimp [E3, ri, cellp, ints, hl, hli]) | (refine Also.intro ?_ fun _ => ?_) | (refine Hold.intro fun _ => ?_) | (refine And.intro ?_ ?_))
  have hli : ¬ (300 : Int) ≤ l.length := by omega
  by_cases hE : serE l = 0
  case neg =>
    simp -dsimp [Tryd.f3, E3]
    repeat' (first | omega | (simp -dsimp [E3, ri, cellp, ints, hl, hli, hE]) | (refine Also.intro ?_ fun _ => ?_) | (refine Hold.intro fun _ => ?_) | (refine And.intro ?_ ?_))
  have hser : l.length ≤ 300 ∧ allB l (-1000000) 1000000 = true := by
    have h0 := hE
    unfold serE at h0
    split at h0
    · cases h0
    · split at h0
      · exact ⟨by omega, by assumption⟩
      · cases h0
  have hbd : ∀ x ∈ l, -1000000 ≤ x ∧ x ≤ 1000000 := by
    intro x hx
    have := List.all_eq_true.1 hser.2 x hx
    simp [withinB] at this; omega
  have hcl := cycles_len l
  have htl := turn_len l
  have hhs := cycles_hs l
  have hw : ∀ c ∈ cycles l, 1 ≤ c.2 ∧ c.2 ≤ 2 := cyc_w _ _
  generalize hT : cycles l = T at *
  have hT0 := hT
  have hTl : T.length ≤ 9223372036854775807 := by omega
  simp -dsimp [Tryd.f3, E3]
  repeat' (first | omega | (simp -dsimp [E3, ri, cellp, ints, hl, hli, hE, hT, hTl]) | (refine Also.intro ?_ fun _ => ?_) | (refine Hold.intro fun _ => ?_) | (refine And.intro ?_ ?_))
  have hmx : ∀ k, 0 ≤ hsTo T k ∧ hsTo T k ≤ 2 * (k : Nat) := by
    intro k
    induction k with
    | zero => simp [hsTo, hsum]
    | succ k ih =>
      by_cases hk : k < T.length
      · have : hsTo T (k + 1) = hsTo T k + T[k].2 := by
          simp only [hsTo]
          rw [List.take_add_one, List.getElem?_eq_getElem hk, hsum_app]; simp [hsum]
        have := hw _ (List.getElem_mem hk)
        omega
      · have : hsTo T (k + 1) = hsTo T k := by simp only [hsTo]; rw [List.take_of_length_le (by omega), List.take_of_length_le (by omega)]
        omega
  refine awp_loop [35, 36, 37, 38, 41, 42, 43, 44, 45, 46, 47, 7, 48, 49, 50, 51, 52, 53, 54, 8, 55, 56, 57, 58, 59, 60, 61, 62, 63, 64, 65, 66, 67, 68, 4, 39, 40, 9] (fun k : Fin (T.length + 1) => [(7, (true, .int .i64 (hsTo T k.1))), (8, (true, .int .i64 (tpTo T k.1))), (9, (true, .int .i64 (k.1 : Nat)))]) (fun _ => hps [(303, { base := 0, blks := [{ z := 2, els := [[.int .i64 a, .int .i64 b]], ty := 24 }] })] noH) (fun k => T.length - k.1) ⟨0, by omega⟩ ?_ ?_ ?_
  · simp [okAll, okv, hsTo, tpTo, hsum]
  · exact (by (try simp -dsimp only [hpush_noH, hpush_hps, hps_over]); refine hle_hps ?_; simp -dsimp [allK, ]; repeat' (first | (refine And.intro ?_ ?_) | (refine sLe.same ?_ ?_ <;> (simp; done)) | (refine sLe.clear ?_ ?_ <;> (first | (simp; done) | (simp; omega))) | (refine sLe.drop 1 ?_ ?_ ?_ <;> (simp; done))))
  rintro ⟨k, hk⟩
  simp only
  by_cases hk1 : k < T.length
  · have hki : (k : Int) < T.length := by omega
    have wk : IntKind.wrap .i64 ((k : Int) + 1) = (k + 1 : Nat) := wrap_id (by omega) (by omega)
    obtain ⟨p, hp, hp'⟩ := get_ex hk1
    have hg : T.getD k (0, 0) = p := by simp [List.getD, hp]
    have h1 : tpTo T (k + 1) = if tpTo T k < p.1 then p.1 else tpTo T k := by rw [tpTo, hg]
    have h2 : hsTo T (k + 1) = hsTo T k + p.2 := by
      simp only [hsTo]
      rw [List.take_add_one, hp, hsum_app]; simp [hsum]
    have hpw := hw p (List.mem_of_getElem? hp)
    have hmk := hmx k
    have w2 : IntKind.wrap .i64 (hsTo T k + p.2) = hsTo T (k + 1) := by rw [h2]; exact wrap_id (by omega) (by omega)
    have hp12 : p.2 = 1 ∨ p.2 = 2 := by omega
    rcases hp12 with e | e
    · rw [e] at w2
      simp -dsimp [hki]
      repeat' (first | omega | (simp -dsimp [E3, ri, cellp, ints, hki, hk1, hp, hp', wk, cycV, w2, e, ← h1]) | (refine Also.intro ?_ fun _ => ?_) | (refine Hold.intro fun _ => ?_) | (refine And.intro ?_ ?_))
      refine ⟨⟨k + 1, by omega⟩, tle_chain rfl ?_, (by (try simp -dsimp only [hpush_noH, hpush_hps, hps_over]); refine hle_hps ?_; simp -dsimp [allK, ]; repeat' (first | (refine And.intro ?_ ?_) | (refine sLe.same ?_ ?_ <;> (simp; done)) | (refine sLe.clear ?_ ?_ <;> (first | (simp; done) | (simp; omega))) | (refine sLe.drop 1 ?_ ?_ ?_ <;> (simp; done)))), by simp only; omega⟩
      simp [okAll, okv, h1]
    · rw [e] at w2
      simp -dsimp [hki]
      repeat' (first | omega | (simp -dsimp [E3, ri, cellp, ints, hki, hk1, hp, hp', wk, cycV, w2, e, ← h1]) | (refine Also.intro ?_ fun _ => ?_) | (refine Hold.intro fun _ => ?_) | (refine And.intro ?_ ?_))
      refine ⟨⟨k + 1, by omega⟩, tle_chain rfl ?_, (by (try simp -dsimp only [hpush_noH, hpush_hps, hps_over]); refine hle_hps ?_; simp -dsimp [allK, ]; repeat' (first | (refine And.intro ?_ ?_) | (refine sLe.same ?_ ?_ <;> (simp; done)) | (refine sLe.clear ?_ ?_ <;> (first | (simp; done) | (simp; omega))) | (refine sLe.drop 1 ?_ ?_ ?_ <;> (simp; done)))), by simp only; omega⟩
      simp [okAll, okv, h1]
  · have hkn : ¬ (k : Int) < T.length := by omega
    have hke : k = T.length := by omega
    subst hke
    have hD : hsTo T T.length = ((turn l).length - 1 : Nat) := by rw [hsTo, List.take_length, hhs]
    have ht : (turn l).length ≤ 9223372036854775807 := by omega
    generalize hTe : (turn l).length = N at *
    have hT : IntKind.wrap .i64 ((N : Int) - 1) = N - 1 := by
      have : (N : Int) ≤ 9223372036854775807 := by omega
      exact wrap_id (by omega) (by omega)
    have hM : (if (1 : Int) < (N : Int) then (N : Int) - 1 else 0) = ((N - 1 : Nat) : Int) := by split <;> omega
    by_cases hl0 : l.length = 0
    · have hl0' : (l.length : Int) = 0 := by omega
      simp -dsimp [hkn]
      repeat' (first | omega | (simp -dsimp [E3, ri, cellp, ints, hkn, hl, hTe, ht, hT, hD, hM, hl0', hl0]) | (refine Also.intro ?_ fun _ => ?_) | (refine Hold.intro fun _ => ?_) | (refine And.intro ?_ ?_))
    have hl0' : ¬ (l.length : Int) = 0 := by omega
    have hl1 : 0 < l.length := by omega
    obtain ⟨x, hx, hx'⟩ := get_ex hl1
    simp -dsimp [hkn]
    repeat' (first | omega | (simp -dsimp [E3, ri, cellp, ints, hkn, hl, hTe, ht, hT, hD, hM, hl0', hl0, hl1, hx, hx']) | (refine Also.intro ?_ fun _ => ?_) | (refine Hold.intro fun _ => ?_) | (refine And.intro ?_ ?_))
    have hg0 : l.getD 0 0 = x := by simp [List.getD, hx]
    have htw : ∀ k, (twTo l b k).length ≤ 2 * k := by
      intro k
      induction k with
      | zero => simp [twTo]
      | succ k ih => simp only [twTo, List.length_append]; split <;> simp <;> omega
    have hfin : tpTo T T.length = hiTo l l.length - loTo l l.length ∧ (-1000000 ≤ loTo l l.length ∧ loTo l l.length ≤ 1000000) ∧ (-1000000 ≤ hiTo l l.length ∧ hiTo l l.length ≤ 1000000) := by
      have hlo := loAttain hl1
      have hhi := hiAttain hl1
      refine ⟨by rw [← hT0]; exact tp_top hl1, ?_, ?_⟩
      · exact hbd _ hlo
      · exact hbd _ hhi
    have hall : ∀ y ∈ l, loTo l l.length ≤ y ∧ y ≤ hiTo l l.length := lohi_all l
    have hse1 : serE (l.map fun x => -x) = 0 := serE_zero (by simp; omega) (fun y hy => by
      obtain ⟨z, hz, rfl⟩ := List.mem_map.1 hy
      have := hbd z hz; omega)
    obtain ⟨hct0, htwl, htwm⟩ := tw_cycles l b
    have hse2 : serE (twTo l b l.length) = 0 := serE_zero (by omega) (fun y hy => hbd y (htwm y hy))
    have hcn : cycles (l.map fun x => -x) = T := by rw [cycles_neg, hT0]
    have hct : cycles (twTo l b l.length) = T := by rw [hct0, hT0]
    refine awp_loop_g [(13, 411, 1, 3), (14, 418, 1, 3)] rfl (by simp) [86, 87, 88, 89, 92, 93, 94, 95, 96, 97, 10, 98, 99, 100, 101, 102, 103, 11, 104, 105, 106, 107, 108, 109, 110, 111, 13, 112, 113, 114, 115, 116, 117, 118, 14, 119, 120, 121, 122, 123, 124, 125, 126, 127, 128, 129, 90, 91, 15] (fun q : Fin (l.length + 1) => [(10, (true, .int .i64 (loTo l q.1))), (11, (true, .int .i64 (hiTo l q.1))), (15, (true, .int .i64 (q.1 : Nat))), (13, (true, .bsl 411 0 q.1)), (14, (true, .bsl 418 0 (twTo l b q.1).length))])
      (fun q => coH a b (mnTo l q.1) (twTo l b q.1)) (fun q => l.length - q.1) ⟨0, by omega⟩ ?_ ?_ ?_
    · simp [okAll, okv, twTo, loTo, hiTo, List.getD, hx]
    · simp only [coH, twTo, mnTo]; exact (by (try simp -dsimp only [hpush_noH, hpush_hps, hps_over]); refine hle_hps ?_; simp -dsimp [allK, ]; repeat' (first | (refine And.intro ?_ ?_) | (refine sLe.same ?_ ?_ <;> (simp; done)) | (refine sLe.clear ?_ ?_ <;> (first | (simp; done) | (simp; omega))) | (refine sLe.drop 1 ?_ ?_ ?_ <;> (simp; done))))
    rintro ⟨k, hk⟩
    simp only
    by_cases hk1 : k < l.length
    · have hki : (k : Int) < l.length := by omega
      have wk : IntKind.wrap .i64 ((k : Int) + 1) = (k + 1 : Nat) := wrap_id (by omega) (by omega)
      obtain ⟨y, hy, hy'⟩ := get_ex hk1
      have hgy : l.getD k 0 = y := by simp [List.getD, hy]
      have h1 : loTo l (k + 1) = if y < loTo l k then y else loTo l k := by rw [loTo, hgy]
      have h2 : hiTo l (k + 1) = if hiTo l k < y then y else hiTo l k := by rw [hiTo, hgy]
      have hyb := hbd y (List.mem_of_getElem? hy)
      have wn : IntKind.wrap .i64 (-y) = -y := wrap_id (by omega) (by omega)
      have hmi : mnTo l (k + 1) = mnTo l k ++ [-y] := by simp only [mnTo]; rw [List.take_add_one, hy]; simp
      have hml : (mnTo l k).length = k := by simp only [mnTo, List.length_map, List.length_take]; omega
      have htk := htw k
      have hb8 : (k + 1) * 8 ≤ 140737488355328 := by omega
      have hmr : (mnTo l (k + 1)).map ri = (mnTo l k).map ri ++ [[V.int .i64 (-y)]] := by rw [hmi]; simp [ri]
      generalize mnTo l k = MI at *
      have hb9 : ((twTo l b k).length + 1) * 8 ≤ 140737488355328 := by omega
      have hb10 : ((twTo l b k).length + 1 + 1) * 8 ≤ 140737488355328 := by omega
      by_cases hkb : (k : Int) = b
      · have htw1 : twTo l b (k + 1) = twTo l b k ++ [y, y] := by rw [twTo, if_pos hkb, hgy]
        have htr : (twTo l b (k + 1)).map ri = (twTo l b k).map ri ++ [[V.int .i64 y], [V.int .i64 y]] := by rw [htw1]; simp [ri]
        have htl2 : (twTo l b (k + 1)).length = (twTo l b k).length + 1 + 1 := by rw [htw1]; simp
        generalize twTo l b k = TW at *
        subst hkb
        simp -dsimp [hki, coH]
        repeat' (first | omega | (simp -dsimp [E3, ri, cellp, ints, hki, hk1, hy, hy', wk, wn, hml, hb8, hb9, hb10, ri]) | (refine Also.intro ?_ fun _ => ?_) | (refine Hold.intro fun _ => ?_) | (refine And.intro ?_ ?_))
        refine ⟨⟨k + 1, by omega⟩, tle_chain rfl ?_, ?_, by simp only; omega⟩
        · simp [okAll, okv, h1, h2, htl2]
        · simp only [coH]; rw [hmr, htr]; exact (by (try simp -dsimp only [hpush_noH, hpush_hps, hps_over]); refine hle_hps ?_; simp -dsimp [allK, ]; repeat' (first | (refine And.intro ?_ ?_) | (refine sLe.same ?_ ?_ <;> (simp; done)) | (refine sLe.clear ?_ ?_ <;> (first | (simp; done) | (simp; omega))) | (refine sLe.drop 1 ?_ ?_ ?_ <;> (simp; done))))
      · have htw1 : twTo l b (k + 1) = twTo l b k ++ [y] := by rw [twTo, if_neg hkb, hgy]
        have htr : (twTo l b (k + 1)).map ri = (twTo l b k).map ri ++ [[V.int .i64 y]] := by rw [htw1]; simp [ri]
        have htl2 : (twTo l b (k + 1)).length = (twTo l b k).length + 1 := by rw [htw1]; simp
        generalize twTo l b k = TW at *
        simp -dsimp [hki, coH]
        repeat' (first | omega | (simp -dsimp [E3, ri, cellp, ints, hki, hk1, hy, hy', wk, wn, hml, hb8, hb9, hkb, ri]) | (refine Also.intro ?_ fun _ => ?_) | (refine Hold.intro fun _ => ?_) | (refine And.intro ?_ ?_))
        refine ⟨⟨k + 1, by omega⟩, tle_chain rfl ?_, ?_, by simp only; omega⟩
        · simp [okAll, okv, h1, h2, htl2]
        · simp only [coH]; rw [hmr, htr]; exact (by (try simp -dsimp only [hpush_noH, hpush_hps, hps_over]); refine hle_hps ?_; simp -dsimp [allK, ]; repeat' (first | (refine And.intro ?_ ?_) | (refine sLe.same ?_ ?_ <;> (simp; done)) | (refine sLe.clear ?_ ?_ <;> (first | (simp; done) | (simp; omega))) | (refine sLe.drop 1 ?_ ?_ ?_ <;> (simp; done))))
    · have hkn : ¬ (k : Int) < l.length := by omega
      have hke : k = l.length := by omega
      subst hke
      obtain ⟨htop, hlb, hhb⟩ := hfin
      have wd : IntKind.wrap .i64 (hiTo l l.length - loTo l l.length) = hiTo l l.length - loTo l l.length := wrap_id (by omega) (by omega)
      have hmi : mnTo l l.length = l.map fun x => -x := by rw [mnTo, List.take_length]
      have htk := htw l.length
      rw [hmi]
      have ci1 := toInts_rows2 (l.map fun x => -x)
      have ci2 := toInts_rows2 (twTo l b l.length)
      have hmlen : (l.map fun x => -x).length = l.length := by simp
      generalize (l.map fun x => -x) = MI at *
      generalize twTo l b l.length = TW at *
      generalize loTo l l.length = lo at *
      generalize hiTo l l.length = hi at *
      by_cases c1 : a < -2000000
      · simp -dsimp [hkn, coH]
        repeat' (first | omega | (simp -dsimp [E3, ri, cellp, ints, hkn, htop, wd, hse1, hse2, hcn, hct, ci1, ci2, hmlen, hT, hTl, hl, ints, toPrs_rows, prs, c1]) | (refine Also.intro ?_ fun _ => ?_) | (refine Hold.intro fun _ => ?_) | (refine And.intro ?_ ?_))
      by_cases c2 : 2000000 < a
      · simp -dsimp [hkn, coH]
        repeat' (first | omega | (simp -dsimp [E3, ri, cellp, ints, hkn, htop, wd, hse1, hse2, hcn, hct, ci1, ci2, hmlen, hT, hTl, hl, ints, toPrs_rows, prs, c1, c2]) | (refine Also.intro ?_ fun _ => ?_) | (refine Hold.intro fun _ => ?_) | (refine And.intro ?_ ?_))
      have wl : IntKind.wrap .i64 (lo + a) = lo + a := wrap_id (by omega) (by omega)
      have wh : IntKind.wrap .i64 (hi + a) = hi + a := wrap_id (by omega) (by omega)
      by_cases c3 : lo + a < -1000000
      · simp -dsimp [hkn, coH]
        repeat' (first | omega | (simp -dsimp [E3, ri, cellp, ints, hkn, htop, wd, hse1, hse2, hcn, hct, ci1, ci2, hmlen, hT, hTl, hl, ints, toPrs_rows, prs, c1, c2, wl, c3]) | (refine Also.intro ?_ fun _ => ?_) | (refine Hold.intro fun _ => ?_) | (refine And.intro ?_ ?_))
      by_cases c4 : 1000000 < hi + a
      · simp -dsimp [hkn, coH]
        repeat' (first | omega | (simp -dsimp [E3, ri, cellp, ints, hkn, htop, wd, hse1, hse2, hcn, hct, ci1, ci2, hmlen, hT, hTl, hl, ints, toPrs_rows, prs, c1, c2, wl, c3, wh, c4]) | (refine Also.intro ?_ fun _ => ?_) | (refine Hold.intro fun _ => ?_) | (refine And.intro ?_ ?_))
      have hse3 : serE (adTo l a l.length) = 0 := by
        unfold serE
        rw [if_neg (by simp [adTo]; omega), if_pos]
        simp only [adTo, allB, List.take_length]
        rw [List.all_eq_true]
        intro y hy
        obtain ⟨z, hz, rfl⟩ := List.mem_map.1 hy
        have := hall z hz
        simp [withinB]; omega
      have hca : cycles (adTo l a l.length) = T := by rw [adTo, List.take_length, cycles_add, hT0]
      simp -dsimp [hkn, coH]
      repeat' (first | omega | (simp -dsimp [E3, ri, cellp, ints, hkn, htop, wd, hse1, hse2, hcn, hct, ci1, ci2, hmlen, hT, hTl, hl, ints, toPrs_rows, prs, c1, c2, wl, c3, wh, c4]) | (refine Also.intro ?_ fun _ => ?_) | (refine Hold.intro fun _ => ?_) | (refine And.intro ?_ ?_))
      refine awp_loop_g [(12, 501, 1, 3)] rfl (by simp) [186, 187, 188, 189, 192, 193, 194, 195, 196, 197, 198, 199, 200, 201, 12, 190, 191, 20] (fun q : Fin (l.length + 1) => [(20, (true, .int .i64 (q.1 : Nat))), (12, (true, .bsl 501 0 q.1))])
        (fun q => hps [(303, { base := 0, blks := [{ z := 2, els := [[.int .i64 a, .int .i64 b]], ty := 24 }] }), (411, { base := 0, blks := [{ z := 1, els := MI.map ri, ty := 3, fz := true }] }), (418, { base := 0, blks := [{ z := 1, els := TW.map ri, ty := 3, fz := true }] }), (501, { base := 0, blks := [{ z := 1, els := (adTo l a q.1).map ri, ty := 3 }] })] noH) (fun q => l.length - q.1) ⟨0, by omega⟩ ?_ ?_ ?_
      · simp [okAll, okv]
      · simp only [adTo]; exact (by (try simp -dsimp only [hpush_noH, hpush_hps, hps_over]); refine hle_hps ?_; simp -dsimp [allK, ]; repeat' (first | (refine And.intro ?_ ?_) | (refine sLe.same ?_ ?_ <;> (simp; done)) | (refine sLe.clear ?_ ?_ <;> (first | (simp; done) | (simp; omega))) | (refine sLe.drop 1 ?_ ?_ ?_ <;> (simp; done))))
      rintro ⟨k, hk⟩
      simp only
      by_cases hk1 : k < l.length
      · have hki : (k : Int) < l.length := by omega
        have wk : IntKind.wrap .i64 ((k : Int) + 1) = (k + 1 : Nat) := wrap_id (by omega) (by omega)
        obtain ⟨y, hy, hy'⟩ := get_ex hk1
        have hyb := hbd y (List.mem_of_getElem? hy)
        have wn : IntKind.wrap .i64 (y + a) = y + a := wrap_id (by omega) (by omega)
        have hmr : (adTo l a (k + 1)).map ri = (adTo l a k).map ri ++ [[V.int .i64 (y + a)]] := by simp only [adTo]; rw [List.take_add_one, hy]; simp [ri]
        have hml : (adTo l a k).length = k := by simp only [adTo, List.length_map, List.length_take]; omega
        have hb8 : (k + 1) * 8 ≤ 140737488355328 := by omega
        generalize adTo l a k = AD at *
        simp -dsimp [hki]
        repeat' (first | omega | (simp -dsimp [E3, ri, cellp, ints, hki, hk1, hy, hy', wk, wn, hml, hb8, ri]) | (refine Also.intro ?_ fun _ => ?_) | (refine Hold.intro fun _ => ?_) | (refine And.intro ?_ ?_))
        refine ⟨⟨k + 1, by omega⟩, tle_chain rfl ?_, ?_, by simp only; omega⟩
        · simp [okAll, okv]
        · simp only; rw [hmr]; exact (by (try simp -dsimp only [hpush_noH, hpush_hps, hps_over]); refine hle_hps ?_; simp -dsimp [allK, ]; repeat' (first | (refine And.intro ?_ ?_) | (refine sLe.same ?_ ?_ <;> (simp; done)) | (refine sLe.clear ?_ ?_ <;> (first | (simp; done) | (simp; omega))) | (refine sLe.drop 1 ?_ ?_ ?_ <;> (simp; done))))
      · have hkn : ¬ (k : Int) < l.length := by omega
        have hke : k = l.length := by omega
        subst hke
        have ci3 := toInts_rows2 (adTo l a l.length)
        have hml : (adTo l a l.length).length = l.length := by simp [adTo]
        generalize adTo l a l.length = AD at *
        simp -dsimp [hkn]
        repeat' (first | omega | (simp -dsimp [E3, ri, cellp, ints, hkn, hse3, hca, ci3, hml, hT, hTl, hl, ints, toPrs_rows, prs]) | (refine Also.intro ?_ fun _ => ?_) | (refine Hold.intro fun _ => ?_) | (refine And.intro ?_ ?_))
theorem ok3 : FnOK Tryd.prog 3 (.pure lawCoS) := pure_fn (E := E3) rfl (.cons ok15 (.cons ok16 (.cons ok17 (.cons ok18 .nil)))) (ok := []) (fn := Tryd.f3) (by kernel_rfl) (by kernel_rfl) (by kernel_rfl) (by kernel_rfl) rfl (fun _ _ => by simp) b3
end Go.Sx
end
