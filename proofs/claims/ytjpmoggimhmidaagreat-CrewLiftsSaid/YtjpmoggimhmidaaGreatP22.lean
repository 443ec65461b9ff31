/- A part of a proof; no conditions. -/
import Derived.Test.YtjpmoggimhmidaaGreatP20
import Derived.Test.YtjpmoggimhmidaaGreatP21
import Derived.WalkKit
set_option linter.unusedSimpArgs false
set_option linter.unusedVariables false
set_option linter.unusedSectionVars false
section
/- Parts: numbers within bounds, the errors of a series. No conditions. -/
set_option linter.unusedSimpArgs false
set_option maxRecDepth 100000
set_option maxHeartbeats 1000000
namespace Go.Sx
open Go.Proofs

/-- scrap and store. -/
instance : Gls := ⟨fun _ => none⟩
def withinB (n lo hi : Int) : Bool := decide (lo ≤ n ∧ n ≤ hi)
abbrev withinS : PSpec := { dom := Int × Int × Int, enc := fun d => [.int .i64 d.1, .int .i64 d.2.1, .int .i64 d.2.2], dec := fun l => ((l.getD 0 .top).toInt, (l.getD 1 .top).toInt, (l.getD 2 .top).toInt), pre := fun _ => True, res := fun d => .bool (withinB d.1 d.2.1 d.2.2) }
def cellp (n : Int) : V := .ip 1 [[.int .i64 n]] 0 0
def allB (l : List Int) (lo hi : Int) : Bool := l.all fun n => withinB n lo hi
end Go.Sx
end
section
/- Pages: hours by the number of pages that they are on. No conditions. -/
set_option linter.unusedSimpArgs false
set_option linter.unusedSectionVars false
namespace Go.Sx

structure Sp where
  lo : Int
  hi : Int
  deriving DecidableEq, Inhabited
def Sp.row (s : Sp) : List V := [.int .i64 s.lo, .int .i64 s.hi]
theorem Sp.row_inj (a b : Sp) (h : a.row = b.row) : a = b := by
  cases a; cases b; simp [Sp.row] at h; simp [h]
def Sp.has (s : Sp) (h : Int) : Bool := decide (s.lo ≤ h) && decide (h ≤ s.hi)
/-- On how many of the first pages an hour is. -/
def manyTo (pg : List Sp) (h : Int) : Nat → Nat
  | 0 => 0
  | k + 1 => manyTo pg h k + if (pg.getD k default).has h = true then 1 else 0
def many (pg : List Sp) (h : Int) : Nat := manyTo pg h pg.length
theorem manyTo_le (pg : List Sp) (h : Int) : ∀ k, manyTo pg h k ≤ k
  | 0 => Nat.le_refl _
  | k + 1 => by
    have := manyTo_le pg h k
    simp only [manyTo]; split <;> omega
/-- The fewest spans of the hours that are so. -/
def rns (f : Nat → Bool) : Nat → List Sp
  | 0 => []
  | h + 1 => if f h = true then (match (rns f h).getLast? with
      | some s => if s.hi = (h : Int) - 1 then (rns f h).dropLast ++ [⟨s.lo, h⟩] else rns f h ++ [⟨h, h⟩]
      | none => [⟨h, h⟩]) else rns f h
theorem rns_no {f : Nat → Bool} {h : Nat} (hf : f h = false) : rns f (h + 1) = rns f h := by
  simp only [rns, hf]; rfl
theorem rns_nil {f : Nat → Bool} {h : Nat} (hf : f h = true) (hr : rns f h = []) : rns f (h + 1) = [⟨h, h⟩] := by
  simp only [rns, hf, hr]; rfl
theorem rns_more {f : Nat → Bool} {h : Nat} {p : List Sp} {s : Sp} (hf : f h = true) (hr : rns f h = p ++ [s]) (hs : s.hi = (h : Int) - 1) : rns f (h + 1) = p ++ [⟨s.lo, h⟩] := by
  simp [rns, hf, hr, hs]
theorem rns_new {f : Nat → Bool} {h : Nat} {p : List Sp} {s : Sp} (hf : f h = true) (hr : rns f h = p ++ [s]) (hs : ¬ s.hi = (h : Int) - 1) : rns f (h + 1) = p ++ [s] ++ [⟨h, h⟩] := by
  simp [rns, hf, hr, hs]
theorem snoc_cases {α : Type} (l : List α) : l = [] ∨ ∃ p s, l = p ++ [s] := by
  cases h : l.reverse with
  | nil => left; simpa using h
  | cons a r => right; exact ⟨r.reverse, a, by have := congrArg List.reverse h; simpa using this⟩
theorem rns_len (f : Nat → Bool) : ∀ h, (rns f h).length ≤ h
  | 0 => by simp [rns]
  | h + 1 => by
    have ih := rns_len f h
    cases hf : f h
    · rw [rns_no hf]; omega
    · rcases snoc_cases (rns f h) with e | ⟨p, s, e⟩
      · rw [rns_nil hf e]; simp
      · rw [e] at ih
        simp at ih
        by_cases hs : s.hi = (h : Int) - 1
        · rw [rns_more hf e hs]; simp; omega
        · rw [rns_new hf e hs]; simp; omega
theorem rns_congr {f g : Nat → Bool} : ∀ h, (∀ i, i < h → f i = g i) → rns f h = rns g h
  | 0, _ => rfl
  | h + 1, hfg => by simp only [rns, rns_congr h fun i hi => hfg i (by omega), hfg h (by omega)]
/-- By how much the number of pages changes at an hour. -/
def chTo (hrs : Nat) (pg : List Sp) : Nat → List Int
  | 0 => List.replicate (hrs + 1) 0
  | k + 1 => let c := chTo hrs pg k
    let a := (pg.getD k default).lo.toNat
    let b := ((pg.getD k default).hi + 1).toNat
    let c1 := c.set a (c.getD a 0 + 1)
    c1.set b (c1.getD b 0 - 1)
theorem chTo_len (hrs : Nat) (pg : List Sp) : ∀ k, (chTo hrs pg k).length = hrs + 1
  | 0 => by simp [chTo]
  | k + 1 => by simp only [chTo, List.length_set]; exact chTo_len hrs pg k
def psum (c : List Int) : Nat → Int
  | 0 => 0
  | h + 1 => psum c h + c.getD h 0
theorem psum_set (c : List Int) (a : Nat) (x : Int) (ha : a < c.length) : ∀ h, psum (c.set a x) h = psum c h + if a < h then x - c.getD a 0 else 0
  | 0 => by simp [psum]
  | h + 1 => by
    simp only [psum, psum_set c a x ha h]
    by_cases e : a = h
    · subst e
      have : (c.set a x).getD a 0 = x := by simp [List.getD, ha]
      rw [this, if_neg (by omega), if_pos (by omega)]; omega
    · have : (c.set a x).getD h 0 = c.getD h 0 := by simp [List.getD, List.getElem?_set_ne e]
      rw [this]
      by_cases hlt : a < h
      · rw [if_pos hlt, if_pos (by omega)]; omega
      · rw [if_neg hlt, if_neg (by omega)]; omega
theorem psum_zero (n : Nat) : ∀ h, psum (List.replicate n (0 : Int)) h = 0
  | 0 => rfl
  | h + 1 => by
    rw [psum, psum_zero n h]
    simp only [List.getD, List.getElem?_replicate]
    split <;> rfl
theorem psum_many {hrs : Nat} {pg : List Sp} (hp : ∀ p ∈ pg, 0 ≤ p.lo ∧ p.lo ≤ p.hi ∧ p.hi ≤ (hrs : Int) - 1) : ∀ k h, k ≤ pg.length → h < hrs → psum (chTo hrs pg k) (h + 1) = (manyTo pg h k : Nat)
  | 0, h, _, _ => by rw [chTo, psum_zero]; rfl
  | k + 1, h, hk, hh => by
    have ih := psum_many hp k h (by omega) hh
    have hkl : k < pg.length := by omega
    have hb := hp (pg.getD k default) (by simp [List.getD, hkl])
    generalize hP : pg.getD k default = p at *
    have hl := chTo_len hrs pg k
    have e0 : chTo hrs pg (k + 1) = ((chTo hrs pg k).set p.lo.toNat ((chTo hrs pg k).getD p.lo.toNat 0 + 1)).set (p.hi + 1).toNat (((chTo hrs pg k).set p.lo.toNat ((chTo hrs pg k).getD p.lo.toNat 0 + 1)).getD (p.hi + 1).toNat 0 - 1) := by
      simp only [chTo, hP]
    rw [e0, psum_set _ _ _ (by rw [List.length_set]; omega), psum_set _ _ _ (by omega), ih]
    have e1 : manyTo pg h (k + 1) = manyTo pg h k + if p.has h = true then 1 else 0 := by simp only [manyTo, hP]
    rw [e1]
    by_cases h1 : p.lo ≤ (h : Int)
    · rw [if_pos (show p.lo.toNat < h + 1 by omega)]
      by_cases h2 : (h : Int) ≤ p.hi
      · have : p.has h = true := by simp [Sp.has, h1, h2]
        rw [if_pos this, if_neg (show ¬ (p.hi + 1).toNat < h + 1 by omega)]; omega
      · have : ¬ p.has h = true := by simp [Sp.has, h2]
        rw [if_neg this, if_pos (show (p.hi + 1).toNat < h + 1 by omega)]; omega
    · rw [if_neg (show ¬ p.lo.toNat < h + 1 by omega)]
      have : ¬ p.has h = true := by simp [Sp.has, h1]
      rw [if_neg this, if_neg (show ¬ (p.hi + 1).toNat < h + 1 by omega)]; omega
theorem chTo_bd {hrs : Nat} {pg : List Sp} : ∀ (k i : Nat), -(k : Int) ≤ (chTo hrs pg k).getD i 0 ∧ (chTo hrs pg k).getD i 0 ≤ k
  | 0, i => by simp only [chTo, List.getD, List.getElem?_replicate]; split <;> simp
  | k + 1, i => by
    have ih := chTo_bd (hrs := hrs) (pg := pg) k
    have st : ∀ (c : List Int) (a j : Nat) (x : Int), (c.set a x).getD j 0 = x ∨ (c.set a x).getD j 0 = c.getD j 0 ∨ (c.set a x).getD j 0 = 0 := by
      intro c a j x
      simp only [List.getD, List.getElem?_set]
      split
      · split
        · left; rfl
        · right; right; rfl
      · right; left; rfl
    simp only [chTo]
    generalize chTo hrs pg k = c at *
    generalize (pg.getD k default).lo.toNat = a
    generalize ((pg.getD k default).hi + 1).toNat = b
    have iha := ih a
    have ihb := ih b
    have ihi := ih i
    have f1 := fun j => st c a j (c.getD a 0 + 1)
    have g1 := f1 b
    have g2 := f1 i
    rcases st (c.set a (c.getD a 0 + 1)) b i ((c.set a (c.getD a 0 + 1)).getD b 0 - 1) with h | h | h <;> rw [h] <;> omega
end Go.Sx
end
section
/- Crew, plain: ticks that are counted; duties; what is worked in a window. No conditions. -/
set_option linter.unusedSimpArgs false
set_option linter.unusedSectionVars false
namespace Go.Sx

/-- How many of n ticks from x on are so. -/
def cnt (P : Int → Bool) (x : Int) : Nat → Int
  | 0 => 0
  | n + 1 => cnt P x n + if P (x + n) = true then 1 else 0
theorem cnt_split (P : Int → Bool) (x : Int) (m : Nat) : ∀ n : Nat, cnt P x (m + n) = cnt P x m + cnt P (x + m) n
  | 0 => by simp [cnt]
  | n + 1 => by
    have ih := cnt_split P x m n
    rw [show m + (n + 1) = (m + n) + 1 from rfl, cnt, cnt, ih, show x + ((m + n : Nat) : Int) = x + m + n by omega]
    omega
theorem cnt_congr {P Q : Int → Bool} {x : Int} : ∀ n : Nat, (∀ t, x ≤ t → t < x + n → P t = Q t) → cnt P x n = cnt Q x n
  | 0, _ => rfl
  | n + 1, h => by
    rw [cnt, cnt, cnt_congr n fun t h1 h2 => h t h1 (by omega), h (x + n) (by omega) (by omega)]
theorem cnt_add {P Q R : Int → Bool} {x : Int} : ∀ n : Nat, (∀ t, x ≤ t → t < x + n → (if P t = true then (1 : Int) else 0) = (if Q t = true then 1 else 0) + (if R t = true then 1 else 0)) → cnt P x n = cnt Q x n + cnt R x n
  | 0, _ => rfl
  | n + 1, h => by
    have h1 := cnt_add n fun t h1 h2 => h t h1 (by omega)
    have h2 := h (x + n) (by omega) (by omega)
    rw [cnt, cnt, cnt, h1, h2]; omega
theorem cnt_mono {P Q : Int → Bool} {x : Int} : ∀ n : Nat, (∀ t, x ≤ t → t < x + n → P t = true → Q t = true) → cnt P x n ≤ cnt Q x n
  | 0, _ => Int.le_refl _
  | n + 1, h => by
    have h1 := cnt_mono n fun t h1 h2 => h t h1 (by omega)
    have h2 := h (x + n) (by omega) (by omega)
    rw [cnt, cnt]
    by_cases hp : P (x + n) = true
    · rw [if_pos hp, if_pos (h2 hp)]; omega
    · rw [if_neg hp]; split <;> omega
theorem cnt_le (P : Int → Bool) (x : Int) : ∀ n : Nat, 0 ≤ cnt P x n ∧ cnt P x n ≤ n
  | 0 => by simp [cnt]
  | n + 1 => by have := cnt_le P x n; rw [cnt]; split <;> omega
theorem cnt_all {P : Int → Bool} {x : Int} : ∀ n : Nat, (∀ t, x ≤ t → t < x + n → P t = true) → cnt P x n = n
  | 0, _ => rfl
  | n + 1, h => by rw [cnt, cnt_all n fun t h1 h2 => h t h1 (by omega), if_pos (h (x + n) (by omega) (by omega))]; omega
theorem cnt_none {P : Int → Bool} {x : Int} : ∀ n : Nat, (∀ t, x ≤ t → t < x + n → P t = false) → cnt P x n = 0
  | 0, _ => rfl
  | n + 1, h => by rw [cnt, cnt_none n fun t h1 h2 => h t h1 (by omega), h (x + n) (by omega) (by omega)]; rfl

/-- How many ticks from x on, before y, are so. -/
def cn (P : Int → Bool) (x y : Int) : Int := cnt P x (y - x).toNat
theorem cn_split {P : Int → Bool} {x y z : Int} (h1 : x ≤ y) (h2 : y ≤ z) : cn P x z = cn P x y + cn P y z := by
  unfold cn
  rw [show (z - x).toNat = (y - x).toNat + (z - y).toNat by omega, cnt_split, show x + ((y - x).toNat : Int) = y by omega]
theorem cn_congr {P Q : Int → Bool} {x y : Int} (h : ∀ t, x ≤ t → t < y → P t = Q t) : cn P x y = cn Q x y := cnt_congr _ fun t h1 h2 => h t h1 (by omega)
theorem cn_add {P Q R : Int → Bool} {x y : Int} (h : ∀ t, x ≤ t → t < y → (if P t = true then (1 : Int) else 0) = (if Q t = true then 1 else 0) + (if R t = true then 1 else 0)) : cn P x y = cn Q x y + cn R x y := cnt_add _ fun t h1 h2 => h t h1 (by omega)
theorem cn_mono {P Q : Int → Bool} {x y : Int} (h : ∀ t, x ≤ t → t < y → P t = true → Q t = true) : cn P x y ≤ cn Q x y := cnt_mono _ fun t h1 h2 => h t h1 (by omega)
theorem cn_nonneg (P : Int → Bool) (x y : Int) : 0 ≤ cn P x y := (cnt_le P x _).1
theorem cn_all {P : Int → Bool} {x y : Int} (hxy : x ≤ y) (h : ∀ t, x ≤ t → t < y → P t = true) : cn P x y = y - x := by
  unfold cn; rw [cnt_all _ fun t h1 h2 => h t h1 (by omega)]; omega
theorem cn_none {P : Int → Bool} {x y : Int} (h : ∀ t, x ≤ t → t < y → P t = false) : cn P x y = 0 := cnt_none _ fun t h1 h2 => h t h1 (by omega)
theorem cn_empty {P : Int → Bool} {x y : Int} (h : y ≤ x) : cn P x y = 0 := cn_none fun t h1 h2 => by omega
theorem cn_one (P : Int → Bool) (x : Int) : cn P x (x + 1) = if P x = true then 1 else 0 := by
  unfold cn
  rw [show (x + 1 - x).toNat = 1 by omega]
  simp [cnt]
theorem cn_le {P : Int → Bool} {x y : Int} (h : x ≤ y) : cn P x y ≤ y - x := by
  have := (cnt_le P x (y - x).toNat).2; unfold cn; omega

/-- A duty. -/
structure Du where
  p : Int
  a : Int
  b : Int
  deriving DecidableEq, Inhabited
def Du.on (d : Du) (t : Int) : Bool := decide (d.a ≤ t) && decide (t < d.b)
/-- Whether a tick is in some duty. -/
def onD (l : List Du) (t : Int) : Bool := l.any fun d => d.on t
theorem onD_cons (d : Du) (l : List Du) (t : Int) : onD (d :: l) t = (d.on t || onD l t) := rfl
theorem onD_iff {l : List Du} {t : Int} : onD l t = true ↔ ∃ d ∈ l, d.a ≤ t ∧ t < d.b := by
  simp [onD, Du.on, List.any_eq_true]
theorem onD_perm {l l' : List Du} (h : l.Perm l') (t : Int) : onD l t = onD l' t := by
  unfold onD; exact h.any_eq
theorem onD_app (l l' : List Du) (t : Int) : onD (l ++ l') t = (onD l t || onD l' t) := by simp [onD]
/-- What the sweep over duties counts. -/
def swp (to : Int) : List Du → Int → Int → Int
  | [], _, n => n
  | d :: r, done, n => if max d.a done < min d.b to then swp to r (min d.b to) (n + (min d.b to - max d.a done)) else swp to r done n
theorem swp_eq (to : Int) : ∀ (l : List Du) (done n : Int), done ≤ to → l.Pairwise (fun x y => x.a ≤ y.a) → swp to l done n = n + cn (onD l) done to
  | [], done, n, _, _ => by
    rw [swp, cn_none (P := onD []) fun t _ _ => rfl]; omega
  | d :: r, done, n, h, hp => by
    rw [swp]
    have hr := List.pairwise_cons.1 hp
    split
    · rename_i h1
      rw [swp_eq to r _ _ (by omega) hr.2]
      have e1 : cn (onD (d :: r)) done to = cn (onD (d :: r)) done (max d.a done) + (cn (onD (d :: r)) (max d.a done) (min d.b to) + cn (onD (d :: r)) (min d.b to) to) := by
        rw [← cn_split (by omega) (by omega), ← cn_split (by omega) (by omega)]
      have e2 : cn (onD (d :: r)) done (max d.a done) = 0 := cn_none fun t t1 t2 => by
        cases ht : onD (d :: r) t
        · rfl
        · obtain ⟨x, hx, hx1, hx2⟩ := onD_iff.1 ht
          rcases List.mem_cons.1 hx with rfl | hx
          · omega
          · have := hr.1 x hx; omega
      have e3 : cn (onD (d :: r)) (max d.a done) (min d.b to) = min d.b to - max d.a done := cn_all (by omega) fun t t1 t2 => onD_iff.2 ⟨d, List.mem_cons_self, by omega, by omega⟩
      have e4 : cn (onD (d :: r)) (min d.b to) to = cn (onD r) (min d.b to) to := cn_congr fun t t1 t2 => by
        rw [onD_cons]
        have : d.on t = false := by simp [Du.on]; omega
        rw [this]; rfl
      omega
    · rename_i h1
      rw [swp_eq to r _ _ h hr.2]
      rw [cn_congr (P := onD (d :: r)) (Q := onD r) fun t t1 t2 => by
        rw [onD_cons]
        have : d.on t = false := by simp [Du.on]; omega
        rw [this]; rfl]

/-- In how many ticks of a window one is on a duty. -/
def wk (l : List Du) (x y : Int) : Int := cn (onD l) x y
theorem wk_perm {l l' : List Du} (h : l.Perm l') (x y : Int) : wk l x y = wk l' x y := cn_congr fun t _ _ => onD_perm h t
theorem wk_sorted {l l' : List Du} (h : l'.Perm l) (hs : l'.Pairwise (fun x y => x.a ≤ y.a)) {x y : Int} (hxy : x ≤ y) : swp y l' x 0 = wk l x y := by
  rw [swp_eq y l' x 0 hxy hs, Int.zero_add]; exact wk_perm h x y
theorem wk_mono {l l' : List Du} (h : ∀ d ∈ l, d ∈ l') (x y : Int) : wk l x y ≤ wk l' x y := cn_mono fun t _ _ ht => by
  obtain ⟨d, hd, h1⟩ := onD_iff.1 ht
  exact onD_iff.2 ⟨d, h d hd, h1⟩

/-! windows: the most is worked in one that begins with a duty -/
theorem wk_left {l : List Du} {x W : Int} (hW : 0 ≤ W) (h : onD l (x - 1) = true) : wk l x (x + W) ≤ wk l (x - 1) (x - 1 + W) := by
  unfold wk
  by_cases h0 : W = 0
  · subst h0; rw [cn_empty (by omega), cn_empty (by omega)]; omega
  have e1 : cn (onD l) (x - 1) (x + W) = cn (onD l) (x - 1) x + cn (onD l) x (x + W) := cn_split (by omega) (by omega)
  have e2 : cn (onD l) (x - 1) (x + W) = cn (onD l) (x - 1) (x - 1 + W) + cn (onD l) (x - 1 + W) (x + W) := cn_split (by omega) (by omega)
  have e3 : cn (onD l) (x - 1) x = 1 := by have := cn_one (onD l) (x - 1); rw [Int.sub_add_cancel] at this; rw [this, if_pos h]
  have e4 : cn (onD l) (x - 1 + W) (x + W) ≤ 1 := by have := cn_le (P := onD l) (x := x - 1 + W) (y := x + W) (by omega); omega
  omega
theorem wk_right {l : List Du} {x W : Int} (hW : 0 ≤ W) (h : onD l x = false) : wk l x (x + W) ≤ wk l (x + 1) (x + 1 + W) := by
  unfold wk
  by_cases h0 : W = 0
  · subst h0; rw [cn_empty (by omega), cn_empty (by omega)]; omega
  have e1 : cn (onD l) x (x + 1 + W) = cn (onD l) x (x + 1) + cn (onD l) (x + 1) (x + 1 + W) := cn_split (by omega) (by omega)
  have e2 : cn (onD l) x (x + 1 + W) = cn (onD l) x (x + W) + cn (onD l) (x + W) (x + 1 + W) := cn_split (by omega) (by omega)
  have e3 : cn (onD l) x (x + 1) = 0 := by rw [cn_one, h]; rfl
  have e4 := cn_nonneg (onD l) (x + W) (x + 1 + W)
  omega
/-- From a tick of a duty one comes to a duty's begin. -/
theorem begin_left {l : List Du} {W : Int} (hW : 0 ≤ W) : ∀ (n : Nat) (x lo : Int), (∀ d ∈ l, lo ≤ d.a) → x ≤ lo + n → onD l x = true → ∃ d ∈ l, wk l x (x + W) ≤ wk l d.a (d.a + W)
  | 0, x, lo, hlo, hx, h => by
    obtain ⟨d, hd, h1, h2⟩ := onD_iff.1 h
    have := hlo d hd
    exact ⟨d, hd, by rw [show x = d.a by omega]; exact Int.le_refl _⟩
  | n + 1, x, lo, hlo, hx, h => by
    by_cases h1 : onD l (x - 1) = true
    · obtain ⟨d, hd, h2⟩ := begin_left hW n (x - 1) lo hlo (by omega) h1
      exact ⟨d, hd, Int.le_trans (wk_left hW h1) h2⟩
    · obtain ⟨d, hd, h2, h3⟩ := onD_iff.1 h
      have : d.a = x := by
        by_cases h4 : d.a = x
        · exact h4
        · exact absurd (onD_iff.2 ⟨d, hd, by omega, by omega⟩) h1
      exact ⟨d, hd, by rw [this]; exact Int.le_refl _⟩
theorem begin_right {l : List Du} {W : Int} (hW : 0 ≤ W) (hne : l ≠ []) : ∀ (n : Nat) (x hi : Int), (∀ d ∈ l, d.b ≤ hi) → hi ≤ x + n → wk l x (x + W) = 0 ∨ ∃ y, onD l y = true ∧ wk l x (x + W) ≤ wk l y (y + W)
  | 0, x, hi, hhi, hx => .inl (cn_none fun t t1 t2 => by
      cases ht : onD l t
      · rfl
      · obtain ⟨d, hd, h1, h2⟩ := onD_iff.1 ht
        have := hhi d hd; omega)
  | n + 1, x, hi, hhi, hx => by
    by_cases h : onD l x = true
    · exact .inr ⟨x, h, Int.le_refl _⟩
    · have h1 := wk_right hW (Bool.eq_false_iff.2 h)
      rcases begin_right hW hne n (x + 1) hi hhi (by omega) with h2 | ⟨y, hy, h2⟩
      · left; have := cn_nonneg (onD l) x (x + W); unfold wk at h1 h2 ⊢; omega
      · exact .inr ⟨y, hy, Int.le_trans h1 h2⟩
theorem bound_lo : ∀ l : List Du, ∃ lo : Int, ∀ d ∈ l, lo ≤ d.a
  | [] => ⟨0, fun _ h => by cases h⟩
  | d :: l => by
    obtain ⟨lo, h⟩ := bound_lo l
    refine ⟨min lo d.a, fun x hx => ?_⟩
    rcases List.mem_cons.1 hx with rfl | hx
    · omega
    · have := h x hx; omega
theorem bound_hi : ∀ l : List Du, ∃ hi : Int, ∀ d ∈ l, d.b ≤ hi
  | [] => ⟨0, fun _ h => by cases h⟩
  | d :: l => by
    obtain ⟨lo, h⟩ := bound_hi l
    refine ⟨max lo d.b, fun x hx => ?_⟩
    rcases List.mem_cons.1 hx with rfl | hx
    · omega
    · have := h x hx; omega
/-- In any window is worked no more than in one that begins with a duty. -/
theorem wk_most {l : List Du} {W T : Int} (hW : 0 ≤ W) (hT : 0 ≤ T) (h : ∀ d ∈ l, wk l d.a (d.a + W) ≤ T) (x : Int) : wk l x (x + W) ≤ T := by
  by_cases hne : l = []
  · subst hne
    have : wk [] x (x + W) = 0 := cn_none fun t _ _ => rfl
    omega
  obtain ⟨lo, hlo⟩ := bound_lo l
  obtain ⟨hi, hhi⟩ := bound_hi l
  rcases begin_right hW hne (hi - x).toNat x hi hhi (by omega) with h1 | ⟨y, hy, h1⟩
  · omega
  · obtain ⟨d, hd, h2⟩ := begin_left hW (y - lo).toNat y lo hlo (by omega) hy
    have := h d hd; omega
/-- Whether in no window is worked too much. -/
def totB (l : List Du) (W T : Int) : Bool := l.all fun d => decide (wk l d.a (d.a + W) ≤ T) && decide (wk l (d.b - W) d.b ≤ T)
theorem totB_iff {l : List Du} {W T : Int} (hW : 0 ≤ W) (hT : 0 ≤ T) : totB l W T = true ↔ ∀ x, wk l x (x + W) ≤ T := by
  constructor
  · intro h x
    refine wk_most hW hT (fun d hd => ?_) x
    have := List.all_eq_true.1 h d hd
    simp at this; exact this.1
  · intro h
    refine List.all_eq_true.2 fun d hd => ?_
    have h1 := h d.a
    have h2 := h (d.b - W)
    rw [Int.sub_add_cancel] at h2
    simp; exact ⟨h1, h2⟩

/-! the reference's sums -/
def bus1 (d : Du) (x y : Int) : Int := max 0 (min y d.b - max x d.a)
theorem bus1_eq (d : Du) (x y : Int) : bus1 d x y = cn d.on x y := by
  unfold bus1
  by_cases h : max x d.a < min y d.b
  · rw [cn_split (y := max x d.a) (by omega) (by omega), cn_split (x := max x d.a) (y := min y d.b) (by omega) (by omega)]
    rw [cn_none (x := x) (y := max x d.a) fun t t1 t2 => by simp [Du.on]; omega, cn_all (x := max x d.a) (y := min y d.b) (by omega) fun t t1 t2 => by simp [Du.on]; omega, cn_none (x := min y d.b) (y := y) fun t t1 t2 => by simp [Du.on]; omega]
    omega
  · rw [cn_none (x := x) (y := y) fun t t1 t2 => by simp [Du.on]; omega]; omega
/-- No two have a tick in common. -/
def Disj (l : List Du) : Prop := l.Pairwise fun x y => ∀ t, ¬ (x.on t = true ∧ y.on t = true)
/-- The reference's: on a duty, or on another one of their own. -/
def besd (d : Du) (x y : Int) : List Du → Int
  | [] => bus1 d x y
  | z :: l => besd d x y l + (bus1 z x y - bus1 z (max x d.a) (min y d.b))
theorem bus1_meet (z d : Du) (x y : Int) : bus1 z (max x d.a) (min y d.b) = cn (fun t => z.on t && d.on t) x y := by
  rw [bus1_eq]
  by_cases h : max x d.a ≤ min y d.b
  · rw [cn_split (P := fun t => z.on t && d.on t) (y := max x d.a) (by omega) (by omega), cn_split (P := fun t => z.on t && d.on t) (x := max x d.a) (y := min y d.b) (by omega) (by omega)]
    rw [cn_none (P := fun t => z.on t && d.on t) (x := x) (y := max x d.a) fun t t1 t2 => by simp [Du.on]; omega, cn_none (P := fun t => z.on t && d.on t) (x := min y d.b) (y := y) fun t t1 t2 => by simp [Du.on]; omega]
    rw [cn_congr (P := fun t => z.on t && d.on t) (Q := z.on) fun t t1 t2 => by
      have : d.on t = true := by simp [Du.on]; omega
      simp [this]]
    omega
  · rw [cn_empty (by omega)]
    exact (cn_none fun t t1 t2 => by simp [Du.on]; omega).symm
theorem besd_eq (d : Du) (x y : Int) : ∀ l : List Du, Disj l → besd d x y l = wk (d :: l) x y
  | [], _ => by
    rw [besd, bus1_eq]
    exact cn_congr fun t _ _ => by simp [onD]
  | z :: l, h => by
    have hz := List.pairwise_cons.1 h
    rw [besd, besd_eq d x y l hz.2, bus1_eq, bus1_meet]
    have e1 : cn z.on x y = cn (fun t => z.on t && d.on t) x y + cn (fun t => z.on t && !d.on t) x y := cn_add fun t _ _ => by
      cases z.on t <;> cases d.on t <;> simp
    have e2 : wk (d :: z :: l) x y = wk (d :: l) x y + cn (fun t => z.on t && !d.on t) x y := cn_add fun t _ _ => by
      rw [onD_cons, onD_cons, onD_cons]
      cases hz1 : z.on t
      · cases d.on t <;> simp
      · have : onD l t = false := by
          cases ho : onD l t
          · rfl
          · obtain ⟨w, hw, h1, h2⟩ := onD_iff.1 ho
            exact absurd ⟨hz1, by simp [Du.on, h1, h2]⟩ (hz.1 w hw t)
        cases d.on t <;> simp [this]
    omega
end Go.Sx
end
