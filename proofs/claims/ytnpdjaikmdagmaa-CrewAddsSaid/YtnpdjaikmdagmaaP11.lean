/- A part of a proof; no conditions. -/
import Derived.WalkKit
import Derived.Test.YtnpdjaikmdagmaaP10
set_option linter.unusedSimpArgs false
set_option linter.unusedVariables false
set_option linter.unusedSectionVars false
section
/- Plain: the first place in a list that is so. No conditions. -/
namespace Go.Sx
section
variable {α : Type}
def idxZ (l : List α) (p : α → Bool) : Int := match l.findIdx? p with | some i => i | none => -1
theorem idxZ_at (l : List α) (p : α → Bool) {k : Nat} (hk : k < l.length) (hp : p l[k] = true) (h : ∀ j (hj : j < l.length), j < k → p l[j] = false) : idxZ l p = k := by
  have : l.findIdx? p = some k := by
    rw [List.findIdx?_eq_some_iff_getElem]
    exact ⟨hk, hp, fun j hj => by simp [h j (by omega) hj]⟩
  simp [idxZ, this]
theorem idxZ_none (l : List α) (p : α → Bool) (h : ∀ j (hj : j < l.length), p l[j] = false) : idxZ l p = -1 := by
  have : l.findIdx? p = none := by
    rw [List.findIdx?_eq_none_iff]
    intro x hx
    obtain ⟨j, hj, rfl⟩ := List.getElem_of_mem hx
    exact h j hj
  simp [idxZ, this]
theorem idxZ_some {l : List α} {p : α → Bool} (h : idxZ l p ≠ -1) : ∃ (k : Nat) (hk : k < l.length), idxZ l p = k ∧ p l[k] = true ∧ ∀ j (hj : j < l.length), j < k → p l[j] = false := by
  unfold idxZ at h ⊢
  cases hf : l.findIdx? p with
  | none => rw [hf] at h; exact absurd rfl h
  | some i =>
    rw [List.findIdx?_eq_some_iff_getElem] at hf
    obtain ⟨h1, h2, h3⟩ := hf
    exact ⟨i, h1, rfl, h2, fun j hj hji => by simpa using h3 j hji⟩
theorem get_of {l : List α} {k : Nat} {x : α} (h : l[k]? = some x) (hk : k < l.length) : l[k] = x := by
  rw [List.getElem?_eq_getElem hk] at h; exact Option.some.inj h
theorem idxZ_any (l : List α) (p : α → Bool) : decide (0 ≤ idxZ l p) = l.any p := by
  unfold idxZ
  cases h : l.findIdx? p with
  | none => rw [List.findIdx?_eq_none_iff] at h; simp; exact fun x hx => by simpa using h x hx
  | some i =>
    have : l.any p = true := by
      rw [List.findIdx?_eq_some_iff_getElem] at h
      obtain ⟨h1, h2, _⟩ := h
      exact List.any_eq_true.2 ⟨_, List.getElem_mem h1, h2⟩
    simp [this]
end
end Go.Sx
end
section
/- Crew, plain: rosters, duties, the rules that a duty breaks; the reference's. No conditions. -/
set_option linter.unusedSimpArgs false
set_option linter.unusedSectionVars false
namespace Go.Sx

structure Pn where
  rat : Int
  rank : Int
  dive : Int
  deriving DecidableEq, Inhabited
def Pn.row (p : Pn) : List V := [.int .i64 p.rat, .int .i64 p.rank, .int .i64 p.dive]
theorem Pn.row_inj (a b : Pn) (h : a.row = b.row) : a = b := by
  cases a; cases b; simp [Pn.row] at h; simp [h]
def Du.row (p : Du) : List V := [.int .i64 p.p, .int .i64 p.a, .int .i64 p.b]
theorem Du.row_inj (a b : Du) (h : a.row = b.row) : a = b := by
  cases a; cases b; simp [Du.row] at h; simp [h]
structure Ro where
  ppl : List Pn
  lng : Int
  rst : Int
  win : Int
  tot : Int
  rcn : Int
  deriving DecidableEq, Inhabited
def pplV (l : List Pn) : V := .sl 3 (l.map Pn.row)
def dusV (l : List Du) : V := .sl 3 (l.map Du.row)
def Ro.row (r : Ro) : List V := [pplV r.ppl, .int .i64 r.lng, .int .i64 r.rst, .int .i64 r.win, .int .i64 r.tot, .int .i64 r.rcn]
theorem mapRow_inj {α : Type} {f : α → List V} (hf : ∀ a b, f a = f b → a = b) : ∀ {a b : List α}, a.map f = b.map f → a = b
  | [], [], _ => rfl
  | [], _ :: _, h => by simp at h
  | _ :: _, [], h => by simp at h
  | x :: a, y :: b, h => by
    simp only [List.map_cons, List.cons.injEq] at h
    rw [hf _ _ h.1, mapRow_inj hf h.2]
theorem Ro.row_inj (a b : Ro) (h : a.row = b.row) : a = b := by
  cases a; cases b
  simp only [Ro.row, pplV, List.cons.injEq, V.sl.injEq, V.int.injEq, true_and, and_true] at h
  obtain ⟨h1, h2, h3, h4, h5, h6⟩ := h
  rw [mapRow_inj Pn.row_inj h1, h2, h3, h4, h5, h6]
structure Cl where
  a : Int
  b : Int
  craft : Int
  water : Bool
  deriving DecidableEq, Inhabited
def Cl.row (c : Cl) : List V := [.int .i64 c.a, .int .i64 c.b, .int .i64 c.craft, .bool c.water]
theorem Cl.row_inj (a b : Cl) (h : a.row = b.row) : a = b := by
  cases a; cases b; simp [Cl.row] at h; simp [h]

def Pn.ok (p : Pn) : Bool := decide (0 ≤ p.rat ∧ p.rat ≤ 255) && decide (0 ≤ p.rank ∧ p.rank ≤ 3) && decide (0 ≤ p.dive ∧ p.dive ≤ 2000)
/-- Whether a roster is valid. -/
def Ro.ok (r : Ro) : Bool := decide (r.ppl.length ≤ 12) && r.ppl.all Pn.ok && decide (1 ≤ r.lng ∧ r.lng ≤ 2000) && decide (0 ≤ r.rst ∧ r.rst ≤ 2000) && decide (1 ≤ r.win ∧ r.win ≤ 2000) && decide (1 ≤ r.rcn ∧ r.rcn ≤ 2000) && decide (1 ≤ r.tot ∧ r.tot ≤ r.win)
structure Ro.Fit (r : Ro) : Prop where
  n : r.ppl.length ≤ 12
  p : ∀ p ∈ r.ppl, p.ok = true
  lng : 1 ≤ r.lng ∧ r.lng ≤ 2000
  rst : 0 ≤ r.rst ∧ r.rst ≤ 2000
  win : 1 ≤ r.win ∧ r.win ≤ 2000
  rcn : 1 ≤ r.rcn ∧ r.rcn ≤ 2000
  tot : 1 ≤ r.tot ∧ r.tot ≤ r.win
theorem Ro.ok_iff {r : Ro} : r.ok = true ↔ r.Fit := by
  constructor
  · intro h
    simp [Ro.ok] at h
    obtain ⟨⟨⟨⟨⟨⟨h1, h2⟩, h3⟩, h4⟩, h5⟩, h6⟩, h7⟩ := h
    exact ⟨h1, h2, h3, h4, h5, h6, h7⟩
  · rintro ⟨h1, h2, h3, h4, h5, h6, h7⟩
    simp [Ro.ok]
    exact ⟨⟨⟨⟨⟨⟨h1, h2⟩, h3⟩, h4⟩, h5⟩, h6⟩, h7⟩

/-- Ticks of a duty or a call. -/
def strB (a b : Int) : Bool := decide (0 ≤ a ∧ a ≤ b - 1) && decide (b ≤ 2000)
theorem strB_iff {a b : Int} : strB a b = true ↔ 0 ≤ a ∧ a < b ∧ b ≤ 2000 := by
  simp [strB]; omega
/-- Duties of valid ticks. -/
def Val (l : List Du) : Prop := ∀ d ∈ l, 0 ≤ d.a ∧ d.a < d.b ∧ d.b ≤ 2000
def own (l : List Du) (n : Int) : List Du := l.filter fun d => decide (d.p = n)
theorem own_val {l : List Du} (h : Val l) (n : Int) : Val (own l n) := fun d hd => h d (List.mem_filter.1 hd).1
theorem own_len (l : List Du) (n : Int) : (own l n).length ≤ l.length := List.length_filter_le ..
def restB (r : Ro) (x y : Du) : Bool := if y.a < x.a then decide (y.b + r.rst ≤ x.a) else decide (x.b + r.rst ≤ y.a)
def recB (r : Ro) (o : List Du) (x : Du) : Bool := decide (x.a ≤ r.rcn) || o.any fun d => decide (0 ≤ x.a - d.b ∧ x.a - d.b ≤ r.rcn)
/-- The rules that a duty breaks beside others of the same person. -/
def brk (r : Ro) (o : List Du) (x : Du) : List Int :=
  (if (o.all fun d => restB r d x) = true then [] else [3]) ++ (if r.lng < x.b - x.a then [4] else []) ++ (if totB (o ++ [x]) r.win r.tot = true then [] else [5]) ++ (if recB r o x = true then [] else [6])
theorem brk_nil {r : Ro} {o : List Du} {x : Du} : brk r o x = [] ↔ (∀ d ∈ o, restB r d x = true) ∧ x.b - x.a ≤ r.lng ∧ totB (o ++ [x]) r.win r.tot = true ∧ recB r o x = true := by
  unfold brk
  by_cases h1 : (o.all fun d => restB r d x) = true
  · have h1' := List.all_eq_true.1 h1
    by_cases h2 : r.lng < x.b - x.a
    · simp [h2]; intro _ h; omega
    · by_cases h3 : totB (o ++ [x]) r.win r.tot = true
      · by_cases h4 : recB r o x = true
        · simp [h1, h2, h3, h4]; exact ⟨h1', by omega⟩
        · simp [h1, h2, h3, h4]
      · simp [h1, h2, h3]
  · have : ¬ ∀ d ∈ o, restB r d x = true := fun h => h1 (List.all_eq_true.2 h)
    simp [h1, this]

/-! the reference's -/
def rrest (r : Ro) (l : List Du) (d : Du) : Bool := l.all fun x => !(decide (x.p = d.p) && decide (d.a < x.b + r.rst) && decide (x.a < d.b + r.rst))
/-- The reference's count, from the first on. -/
def bsd (d : Du) (x y : Int) : List Du → Int → Int
  | [], n => n
  | z :: l, n => bsd d x y l (if z.p = d.p then n + (bus1 z x y - bus1 z (max x d.a) (min y d.b)) else n)
def rwin (r : Ro) (l : List Du) (d : Du) : Bool := (l ++ [d]).all fun z => !decide (z.p = d.p) || (decide (bsd d z.a (z.a + r.win) l (bus1 d z.a (z.a + r.win)) ≤ r.tot) && decide (bsd d (max 0 (z.b - r.win)) (max 0 (z.b - r.win) + r.win) l (bus1 d (max 0 (z.b - r.win)) (max 0 (z.b - r.win) + r.win)) ≤ r.tot))
def rrec (r : Ro) (l : List Du) (d : Du) : Bool := decide (d.a ≤ r.rcn) || l.any fun x => decide (x.p = d.p) && decide (x.b ≤ d.a) && decide (d.a - r.rcn ≤ x.b)
def rbrk (r : Ro) (l : List Du) (d : Du) : List Int :=
  (if rrest r l d = true then [] else [3]) ++ (if r.lng < d.b - d.a then [4] else []) ++ (if rwin r l d = true then [] else [5]) ++ (if rrec r l d = true then [] else [6])
theorem bsd_own (d : Du) (x y : Int) : ∀ (l : List Du) (n : Int), bsd d x y l n = n + (besd d x y (own l d.p) - bus1 d x y)
  | [], n => by simp [bsd, own, besd]
  | z :: l, n => by
    rw [bsd, bsd_own d x y l]
    by_cases h : z.p = d.p
    · rw [if_pos h, show own (z :: l) d.p = z :: own l d.p by simp [own, h], besd]; omega
    · rw [if_neg h, show own (z :: l) d.p = own l d.p by simp [own, h]]
theorem bsd_eq {d : Du} {x y : Int} {l : List Du} (h : Disj (own l d.p)) : bsd d x y l (bus1 d x y) = wk (own l d.p ++ [d]) x y := by
  rw [bsd_own, besd_eq d x y _ h]
  have : wk (d :: own l d.p) x y = wk (own l d.p ++ [d]) x y := wk_perm (by simpa using (List.perm_append_comm (l₁ := [d]) (l₂ := own l d.p))) x y
  omega
theorem own_snoc (l : List Du) (d : Du) : own (l ++ [d]) d.p = own l d.p ++ [d] := by simp [own, List.filter_append]
theorem all_own (l : List Du) (n : Int) (p : Du → Bool) : (l.all fun z => !decide (z.p = n) || p z) = (own l n).all p := by
  induction l with
  | nil => rfl
  | cons z l ih =>
    by_cases h : z.p = n
    · rw [show own (z :: l) n = z :: own l n by simp [own, h]]; simp [h, ih]
    · rw [show own (z :: l) n = own l n by simp [own, h]]; simp [h, ih]
theorem rwin_eq {r : Ro} (hr : r.Fit) {l : List Du} {d : Du} (h : Disj (own l d.p)) (hv : Val (own l d.p)) (hd : 0 ≤ d.a ∧ d.a < d.b ∧ d.b ≤ 2000) : rwin r l d = totB (own l d.p ++ [d]) r.win r.tot := by
  unfold rwin
  rw [all_own, own_snoc]
  simp only [bsd_eq h]
  rw [Bool.eq_iff_iff]
  rw [totB_iff (by have := hr.win; omega) (by have := hr.tot; omega)]
  constructor
  · intro h1 x
    refine wk_most (by have := hr.win; omega) (by have := hr.tot; omega) (fun z hz => ?_) x
    have := List.all_eq_true.1 h1 z hz
    simp at this; exact this.1
  · intro h1
    refine List.all_eq_true.2 fun z hz => ?_
    simp; exact ⟨h1 _, h1 _⟩
theorem own_mem {l : List Du} {n : Int} {x : Du} : x ∈ own l n ↔ x ∈ l ∧ x.p = n := by simp [own]
theorem rrest_eq {r : Ro} (hr : r.Fit) {l : List Du} {d : Du} (hv : Val (own l d.p)) (hd : 0 ≤ d.a ∧ d.a < d.b ∧ d.b ≤ 2000) : rrest r l d = (own l d.p).all fun x => restB r x d := by
  have hrr := hr.rst
  unfold rrest
  rw [Bool.eq_iff_iff, List.all_eq_true, List.all_eq_true]
  constructor
  · intro h x hx
    have h1 := h x (own_mem.1 hx).1
    have h2 := (own_mem.1 hx).2
    have h3 := hv x hx
    simp [h2] at h1
    unfold restB
    split
    · simp; omega
    · simp
      omega
  · intro h x hx
    by_cases h2 : x.p = d.p
    · have hx' := own_mem.2 ⟨hx, h2⟩
      have h1 := h x hx'
      have h3 := hv x hx'
      unfold restB at h1
      simp [h2]
      split at h1
      · simp at h1; omega
      · simp at h1; omega
    · simp [h2]
theorem rrec_eq {r : Ro} {l : List Du} {d : Du} : rrec r l d = recB r (own l d.p) d := by
  unfold rrec recB
  congr 1
  rw [Bool.eq_iff_iff, List.any_eq_true, List.any_eq_true]
  constructor
  · rintro ⟨x, hx, h⟩
    simp at h
    exact ⟨x, own_mem.2 ⟨hx, h.1.1⟩, by simp; omega⟩
  · rintro ⟨x, hx, h⟩
    have := own_mem.1 hx
    simp at h
    exact ⟨x, this.1, by simp [this.2]; omega⟩
/-- The reference's rules are those of the duties of one person. -/
theorem rbrk_eq {r : Ro} (hr : r.Fit) {l : List Du} {d : Du} (h : Disj (own l d.p)) (hv : Val (own l d.p)) (hd : 0 ≤ d.a ∧ d.a < d.b ∧ d.b ≤ 2000) : rbrk r l d = brk r (own l d.p) d := by
  unfold rbrk brk
  rw [rrest_eq hr hv hd, rwin_eq hr h hv hd, rrec_eq]

/-! right duties -/
def duAt (l : List Du) (i : Nat) : Du := l.getD i default
def duOk (r : Ro) (l : List Du) (i : Nat) : Bool :=
  decide (0 ≤ (duAt l i).p ∧ (duAt l i).p ≤ r.ppl.length - 1) && strB (duAt l i).a (duAt l i).b && (decide (i = 0) || decide ((duAt l (i - 1)).a ≤ (duAt l i).a)) && (brk r (own (l.take i) (duAt l i).p) (duAt l i)).isEmpty
theorem duOk_iff {r : Ro} {l : List Du} {i : Nat} : duOk r l i = true ↔ (0 ≤ (duAt l i).p ∧ (duAt l i).p ≤ r.ppl.length - 1) ∧ (0 ≤ (duAt l i).a ∧ (duAt l i).a < (duAt l i).b ∧ (duAt l i).b ≤ 2000) ∧ (i = 0 ∨ (duAt l (i - 1)).a ≤ (duAt l i).a) ∧ brk r (own (l.take i) (duAt l i).p) (duAt l i) = [] := by
  unfold duOk
  simp only [Bool.and_eq_true, strB_iff, Bool.or_eq_true, decide_eq_true_eq, List.isEmpty_iff, and_assoc]
def Rt (r : Ro) (l : List Du) (n : Nat) : Prop := ∀ i, i < n → duOk r l i = true
theorem take_snoc {α : Type} [Inhabited α] (l : List α) {n : Nat} (h : n < l.length) : l.take (n + 1) = l.take n ++ [l.getD n default] := by
  rw [List.take_add_one]; simp [List.getD, h]
theorem Rt.val {r : Ro} {l : List Du} : ∀ {n : Nat}, n ≤ l.length → Rt r l n → Val (l.take n)
  | 0, _, _ => fun d hd => by simp at hd
  | n + 1, hn, h => by
    rw [take_snoc l (by omega)]
    intro d hd
    rcases List.mem_append.1 hd with hd | hd
    · exact Rt.val (by omega) (fun i hi => h i (by omega)) d hd
    · have := List.mem_singleton.1 hd
      subst this
      exact (duOk_iff.1 (h n (by omega))).2.1
theorem rest_disj {r : Ro} (hr : 0 ≤ r.rst) {x y : Du} (h : restB r x y = true) (t : Int) : ¬ (x.on t = true ∧ y.on t = true) := by
  rintro ⟨h1, h2⟩
  simp [Du.on] at h1 h2
  unfold restB at h
  split at h <;> simp at h <;> omega
theorem Rt.disj {r : Ro} (hr : 0 ≤ r.rst) {l : List Du} (p : Int) : ∀ {n : Nat}, n ≤ l.length → Rt r l n → Disj (own (l.take n) p)
  | 0, _, _ => by simp [own, Disj]
  | n + 1, hn, h => by
    have ih := Rt.disj hr p (n := n) (by omega) (fun i hi => h i (by omega))
    rw [take_snoc l (by omega)]
    have hk := duOk_iff.1 (h n (by omega))
    change Disj (own (l.take n ++ [duAt l n]) p)
    by_cases hp : (duAt l n).p = p
    · have e : own (l.take n ++ [duAt l n]) p = own (l.take n) p ++ [duAt l n] := by simp [own, List.filter_append, hp]
      rw [e]
      refine List.pairwise_append.2 ⟨ih, List.pairwise_singleton .., fun x hx y hy => ?_⟩
      have := List.mem_singleton.1 hy
      subst this
      rw [hp] at hk
      exact rest_disj hr ((brk_nil.1 hk.2.2.2).1 x hx)
    · have e : own (l.take n ++ [duAt l n]) p = own (l.take n) p := by simp [own, List.filter_append, hp]
      rw [e]; exact ih
def badDu (r : Ro) (l : List Du) : Int := idxZ (List.range l.length) fun i => !duOk r l i
def chkE (r : Ro) (l : List Du) : Int × Int := if r.ok = true then (if 60 < l.length then (0, 2) else if 0 ≤ badDu r l then (badDu r l, 101) else (0, 0)) else (0, 100)
theorem badDu_none {r : Ro} {l : List Du} (h : badDu r l < 0) : Rt r l l.length := by
  intro i hi
  have hz := idxZ_any (List.range l.length) fun j => !duOk r l j
  have e : decide (0 ≤ idxZ (List.range l.length) fun j => !duOk r l j) = false := by
    have : idxZ (List.range l.length) (fun j => !duOk r l j) = badDu r l := rfl
    rw [this]; simp; omega
  rw [e] at hz
  have := List.any_eq_false.1 hz.symm i (by simpa using hi)
  simpa using this
theorem badDu_of {r : Ro} {l : List Du} (h : Rt r l l.length) : badDu r l = -1 := idxZ_none _ _ fun j hj => by
  simp at hj ⊢; exact h j hj
theorem chkE_zero {r : Ro} {l : List Du} : (chkE r l).2 = 0 ↔ r.Fit ∧ l.length ≤ 60 ∧ Rt r l l.length := by
  unfold chkE
  by_cases h1 : r.ok = true
  · rw [if_pos h1]
    by_cases h2 : 60 < l.length
    · rw [if_pos h2]; simp; omega
    · rw [if_neg h2]
      by_cases h3 : 0 ≤ badDu r l
      · rw [if_pos h3]; simp
        intro _ _ h; rw [badDu_of h] at h3; omega
      · rw [if_neg h3]; simp
        exact ⟨Ro.ok_iff.1 h1, by omega, badDu_none (by omega)⟩
  · rw [if_neg h1]; simp
    intro h; exact absurd (Ro.ok_iff.2 h) h1

/-! why somebody may not fly -/
def bit1 (x k : Int) : Bool := x.toNat.testBit k.toNat
def pnAt (r : Ro) (n : Int) : Pn := r.ppl.getD n.toNat default
def whyL (r : Ro) (l : List Du) (n : Int) (c : Cl) : List Int :=
  (if bit1 (pnAt r n).rat c.craft = true then [] else [1]) ++ (if c.water = true ∧ (pnAt r n).dive < c.b then [2] else []) ++ brk r (own l n) ⟨n, c.a, c.b⟩
def callB (c : Cl) : Bool := strB c.a c.b && decide (0 ≤ c.craft ∧ c.craft ≤ 7)
def perB (r : Ro) (n : Int) : Bool := decide (0 ≤ n ∧ n ≤ r.ppl.length - 1)
/-- The errors of a roster, duties and what is right beside them. -/
def chk2 (r : Ro) (l : List Du) (b : Bool) : Int := if (chkE r l).2 = 0 then (if b = true then 0 else 1) else (chkE r l).2
def mayB (r : Ro) (l : List Du) (c : Cl) (i k : Nat) : Bool := decide (i ≠ k) && (decide (2 ≤ (pnAt r i).rank) && (whyL r l i c).isEmpty) && (decide (1 ≤ (pnAt r k).rank) && (whyL r l k c).isEmpty)
def crwL (r : Ro) (l : List Du) (c : Cl) : List (Int × Int) :=
  (List.range r.ppl.length).flatMap fun i : Nat => ((List.range r.ppl.length).filter fun k : Nat => mayB r l c i k).map fun k : Nat => ((i : Int), (k : Int))
/-- The end of the longest duty that begins at a tick: from above. -/
def untL (r : Ro) (o : List Du) (n a : Int) : Nat → Int
  | 0 => 0
  | k + 1 => if (brk r o ⟨n, a, a + (k + 1 : Nat)⟩).isEmpty = true then a + (k + 1 : Nat) else untL r o n a k
end Go.Sx
end
section
/- Crew, plain: cabins, guests, seatings, what they weigh; the first balanced seating. No conditions. -/
set_option linter.unusedSimpArgs false
set_option linter.unusedSectionVars false
namespace Go.Sx

structure Se where
  arm : Int
  ex : Bool
  deriving DecidableEq, Inhabited
def Se.row (s : Se) : List V := [.int .i64 s.arm, .bool s.ex]
theorem Se.row_inj (a b : Se) (h : a.row = b.row) : a = b := by
  cases a; cases b; simp [Se.row] at h; simp [h]
structure Gu where
  w : Int
  suit : Bool
  dive : Int
  able : Bool
  deriving DecidableEq, Inhabited
def Gu.row (g : Gu) : List V := [.int .i64 g.w, .bool g.suit, .int .i64 g.dive, .bool g.able]
theorem Gu.row_inj (a b : Gu) (h : a.row = b.row) : a = b := by
  cases a; cases b; simp [Gu.row] at h; simp [h]
structure Ca where
  emp : Int
  arm : Int
  st : List Se
  farm : Int
  low : Int
  high : Int
  deriving DecidableEq, Inhabited
def Ca.row (c : Ca) : List V := [.int .i64 c.emp, .int .i64 c.arm, .sl 2 (c.st.map Se.row), .int .i64 c.farm, .int .i64 c.low, .int .i64 c.high]
theorem Ca.row_inj (a b : Ca) (h : a.row = b.row) : a = b := by
  cases a; cases b
  simp only [Ca.row, List.cons.injEq, V.sl.injEq, V.int.injEq, true_and, and_true] at h
  obtain ⟨h1, h2, h3, h4, h5, h6⟩ := h
  rw [mapRow_inj Se.row_inj h3, h1, h2, h4, h5, h6]
def gusV (l : List Gu) : V := .sl 4 (l.map Gu.row)

def armB (n : Int) : Bool := decide (-1000 ≤ n ∧ n ≤ 1000)
def Ca.ok (c : Ca) : Bool := decide (1 ≤ c.emp ∧ c.emp ≤ 100000) && decide (c.st.length ≤ 8) && decide (c.low ≤ c.high) && armB c.arm && armB c.farm && armB c.low && armB c.high && c.st.all fun s => armB s.arm
structure Ca.Fit (c : Ca) : Prop where
  emp : 1 ≤ c.emp ∧ c.emp ≤ 100000
  n : c.st.length ≤ 8
  lh : c.low ≤ c.high
  arm : -1000 ≤ c.arm ∧ c.arm ≤ 1000
  farm : -1000 ≤ c.farm ∧ c.farm ≤ 1000
  low : -1000 ≤ c.low ∧ c.low ≤ 1000
  high : -1000 ≤ c.high ∧ c.high ≤ 1000
  st : ∀ s ∈ c.st, -1000 ≤ s.arm ∧ s.arm ≤ 1000
theorem Ca.ok_iff {c : Ca} : c.ok = true ↔ c.Fit := by
  unfold Ca.ok armB
  simp only [Bool.and_eq_true, decide_eq_true_eq, List.all_eq_true]
  constructor
  · rintro ⟨⟨⟨⟨⟨⟨⟨h1, h2⟩, h3⟩, h4⟩, h5⟩, h6⟩, h7⟩, h8⟩
    exact ⟨h1, h2, h3, h4, h5, h6, h7, h8⟩
  · rintro ⟨h1, h2, h3, h4, h5, h6, h7, h8⟩
    exact ⟨⟨⟨⟨⟨⟨⟨h1, h2⟩, h3⟩, h4⟩, h5⟩, h6⟩, h7⟩, h8⟩
def Gu.ok (g : Gu) : Bool := decide (1 ≤ g.w ∧ g.w ≤ 500) && decide (0 ≤ g.dive ∧ g.dive ≤ 2000)
def gueE (l : List Gu) (room : Int) : Int := if room < l.length then 2 else if l.all Gu.ok = true then 0 else 103
def spnE (f : Sp) : Int := if -1000000 ≤ f.lo ∧ f.lo ≤ f.hi ∧ f.hi ≤ 1000000 ∧ 0 ≤ f.lo ∧ f.hi ≤ 100000 then 0 else 10
def lodE (c : Ca) (l : List Gu) (f : Sp) : Int := if c.ok = true then (if gueE l c.st.length = 0 then spnE f else gueE l c.st.length) else 102
structure LFit (c : Ca) (l : List Gu) (f : Sp) : Prop where
  cf : c.Fit
  n : l.length ≤ c.st.length
  gf : ∀ g ∈ l, 1 ≤ g.w ∧ g.w ≤ 500
  ff : 0 ≤ f.lo ∧ f.lo ≤ f.hi ∧ f.hi ≤ 100000
theorem lodE_zero {c : Ca} {l : List Gu} {f : Sp} (h : lodE c l f = 0) : LFit c l f := by
  unfold lodE at h
  split at h
  · rename_i h1
    split at h
    · rename_i h2
      unfold spnE at h
      split at h
      · rename_i h3
        unfold gueE at h2
        split at h2
        · omega
        · rename_i h4
          split at h2
          · rename_i h5
            refine ⟨Ca.ok_iff.1 h1, by omega, fun g hg => ?_, by omega⟩
            have := List.all_eq_true.1 h5 g hg
            simp [Gu.ok] at this; exact this.1
          · omega
      · omega
    · omega
  · omega

/-! weights and moments -/
def guAt (l : List Gu) (i : Nat) : Gu := l.getD i default
def armAt (c : Ca) (s : List Int) (i : Nat) : Int := (c.st.getD (s.getD i 0).toNat default).arm
def wTo (l : List Gu) : Nat → Int
  | 0 => 0
  | k + 1 => wTo l k + (guAt l k).w
def mTo (c : Ca) (l : List Gu) (s : List Int) : Nat → Int
  | 0 => 0
  | k + 1 => mTo c l s k + (guAt l k).w * armAt c s k
def wgt (c : Ca) (l : List Gu) (f : Int) : Int := c.emp + wTo l l.length + f
def mom (c : Ca) (l : List Gu) (s : List Int) (f : Int) : Int := c.emp * c.arm + mTo c l s l.length + f * c.farm
theorem guAt_bd {l : List Gu} (h : ∀ g ∈ l, 1 ≤ g.w ∧ g.w ≤ 500) {k : Nat} (hk : k < l.length) : 1 ≤ (guAt l k).w ∧ (guAt l k).w ≤ 500 := by
  have : guAt l k = l[k] := by simp [guAt, List.getD, hk]
  rw [this]; exact h _ (List.getElem_mem hk)
theorem wTo_bd {l : List Gu} (h : ∀ g ∈ l, 1 ≤ g.w ∧ g.w ≤ 500) : ∀ k, k ≤ l.length → 0 ≤ wTo l k ∧ wTo l k ≤ 500 * k
  | 0, _ => by simp [wTo]
  | k + 1, hk => by
    have ih := wTo_bd h k (by omega)
    have := guAt_bd h (k := k) (by omega)
    rw [wTo]; omega
theorem mul_bd {a b A B : Int} (h1 : 0 ≤ a ∧ a ≤ A) (h2 : -B ≤ b ∧ b ≤ B) : -(A * B) ≤ a * b ∧ a * b ≤ A * B := by
  have hB : 0 ≤ B := by omega
  have e1 : a * b ≤ a * B := Int.mul_le_mul_of_nonneg_left h2.2 h1.1
  have e2 : a * B ≤ A * B := Int.mul_le_mul_of_nonneg_right h1.2 hB
  have e3 : a * -B ≤ a * b := Int.mul_le_mul_of_nonneg_left h2.1 h1.1
  rw [Int.mul_neg] at e3
  omega
theorem armAt_bd {c : Ca} (h : c.Fit) (s : List Int) (i : Nat) : -1000 ≤ armAt c s i ∧ armAt c s i ≤ 1000 := by
  unfold armAt
  generalize (s.getD i 0).toNat = k
  by_cases hk : k < c.st.length
  · have : c.st.getD k default = c.st[k] := by simp [List.getD, hk]
    rw [this]; exact h.st _ (List.getElem_mem hk)
  · have : c.st.getD k default = default := by simp [List.getD, List.getElem?_eq_none (Nat.le_of_not_lt hk)]
    rw [this, show (default : Se).arm = 0 from rfl]; omega
theorem mTo_bd {c : Ca} (hc : c.Fit) {l : List Gu} (h : ∀ g ∈ l, 1 ≤ g.w ∧ g.w ≤ 500) (s : List Int) : ∀ k, k ≤ l.length → -(500000 * (k : Int)) ≤ mTo c l s k ∧ mTo c l s k ≤ 500000 * k
  | 0, _ => by simp [mTo]
  | k + 1, hk => by
    have ih := mTo_bd hc h s k (by omega)
    have h1 := guAt_bd h (k := k) (by omega)
    have h2 := mul_bd (a := (guAt l k).w) (A := 500) (by omega) (armAt_bd hc s k)
    rw [mTo]; omega
/-- Whether the center lies within the limits, with the least and with the most fuel. -/
def ctB (c : Ca) (w m : Int) : Bool := decide (c.low * w ≤ m ∧ m ≤ c.high * w)
def balB (c : Ca) (l : List Gu) (f : Sp) (s : List Int) : Bool := ctB c (wgt c l f.lo) (mom c l s f.lo) && ctB c (wgt c l f.hi) (mom c l s f.hi)
def cenL (c : Ca) (l : List Gu) (f : Sp) (s : List Int) : Sp :=
  ⟨min (mom c l s f.lo / wgt c l f.lo) (mom c l s f.hi / wgt c l f.hi), max (-(-mom c l s f.lo / wgt c l f.lo)) (-(-mom c l s f.hi / wgt c l f.hi))⟩

/-! seatings -/
def sitsB (c : Ca) (g : Gu) (before : List Int) (s : Int) : Bool := decide (0 ≤ s ∧ s ≤ c.st.length - 1) && !before.contains s && (g.able || !(c.st.getD s.toNat default).ex)
def seatOk (c : Ca) (l : List Gu) (s : List Int) (i : Nat) : Bool := sitsB c (guAt l i) (s.take i) (s.getD i 0)
def rightB (c : Ca) (l : List Gu) (s : List Int) : Bool := decide (s.length = l.length) && (List.range l.length).all fun i => seatOk c l s i
/-- The first balanced seating that begins so; the first number is how many guests are left. -/
def sitF (c : Ca) (l : List Gu) (f : Sp) : Nat → List Int → Option (List Int)
  | 0, b => if balB c l f b = true then some b else none
  | m + 1, b => (List.range c.st.length).findSome? fun s : Nat => if sitsB c (guAt l b.length) b s = true then sitF c l f m (b ++ [(s : Int)]) else none
def lexLe (a b : List Int) : Prop := a = b ∨ ∃ i, i < a.length ∧ i < b.length ∧ a.take i = b.take i ∧ a.getD i 0 < b.getD i 0
theorem seatOk_snoc {c : Ca} {l : List Gu} {b : List Int} {s : Int} {i : Nat} (hi : i < b.length) : seatOk c l (b ++ [s]) i = seatOk c l b i := by
  unfold seatOk
  rw [List.take_append_of_le_length (by omega)]
  congr 1
  simp [List.getD, List.getElem?_append_left hi]
theorem sitF_sound {c : Ca} {l : List Gu} {f : Sp} : ∀ (m : Nat) (b a : List Int), b.length + m = l.length → (∀ i, i < b.length → seatOk c l b i = true) → sitF c l f m b = some a → rightB c l a = true ∧ balB c l f a = true ∧ a.take b.length = b
  | 0, b, a, hm, hb, h => by
    rw [sitF] at h
    split at h
    · rename_i h1
      simp only [Option.some.injEq] at h
      subst h
      refine ⟨?_, h1, List.take_length ..⟩
      simp only [rightB, Bool.and_eq_true, decide_eq_true_eq, List.all_eq_true, List.mem_range]
      exact ⟨by omega, fun i hi => hb i (by omega)⟩
    · simp at h
  | m + 1, b, a, hm, hb, h => by
    rw [sitF] at h
    obtain ⟨s, _, h1⟩ := List.exists_of_findSome?_eq_some h
    split at h1
    · rename_i h2
      obtain ⟨k1, k2, k3⟩ := sitF_sound m (b ++ [(s : Int)]) a (by simp; omega) (fun i hi => by
        simp at hi
        by_cases hib : i < b.length
        · rw [seatOk_snoc hib]; exact hb i hib
        · have : i = b.length := by omega
          subst this
          unfold seatOk
          rw [List.take_left' rfl]
          simpa [List.getD] using h2) h1
      refine ⟨k1, k2, ?_⟩
      have := congrArg (List.take b.length) k3
      rw [List.take_take, List.take_left' rfl] at this
      simpa [Nat.min_eq_left] using this
    · simp at h1
theorem findSome_first {α : Type} (g : Nat → Option α) (n t : Nat) (ht : t < n) (hg : (g t).isSome = true) : ∃ s a, s ≤ t ∧ g s = some a ∧ (List.range n).findSome? g = some a ∧ ∀ j, j < s → g j = none := by
  have h1 : ((List.range n).findSome? g).isSome = true := List.findSome?_isSome_iff.2 ⟨t, by simpa using ht, hg⟩
  obtain ⟨a, ha⟩ := Option.isSome_iff_exists.1 h1
  obtain ⟨l1, s, l2, e, hs, hn⟩ := List.findSome?_eq_some_iff.1 ha
  have hlen : l1.length < n := by have := congrArg List.length e; simp at this; omega
  have hls : s = l1.length := by
    have := congrArg (fun l => l[l1.length]?) e
    simp [hlen] at this; omega
  have hall : ∀ j, j < s → g j = none := fun j hj => by
    refine hn j ?_
    have := congrArg (fun l => l[j]?) e
    rw [hls] at hj
    simp only [List.getElem?_range (show j < n by omega), List.getElem?_append_left hj] at this
    exact List.mem_of_getElem? this.symm
  refine ⟨s, a, ?_, hs, ha, hall⟩
  by_cases h : s ≤ t
  · exact h
  · rw [hall t (by omega)] at hg; cases hg
theorem sitF_first {c : Ca} {l : List Gu} {f : Sp} {t : List Int} (ht : rightB c l t = true) (hbal : balB c l f t = true) : ∀ (m : Nat) (b : List Int), b.length + m = l.length → b = t.take b.length → ∃ a, sitF c l f m b = some a ∧ (a = t ∨ ∃ i, b.length ≤ i ∧ i < a.length ∧ a.take i = t.take i ∧ a.getD i 0 < t.getD i 0)
  | 0, b, hm, hb => by
    simp only [rightB, Bool.and_eq_true, decide_eq_true_eq] at ht
    have : b = t := by rw [hb, List.take_of_length_le (by omega)]
    exact ⟨b, by rw [sitF, this, if_pos hbal], .inl this⟩
  | m + 1, b, hm, hb => by
    have ht' := ht
    simp only [rightB, Bool.and_eq_true, decide_eq_true_eq, List.all_eq_true, List.mem_range] at ht'
    have hk := ht'.2 b.length (by omega)
    have hlt : b.length < t.length := by omega
    unfold seatOk at hk
    rw [← hb] at hk
    generalize hs : t.getD b.length 0 = s at hk
    have hs0 : 0 ≤ s ∧ s ≤ c.st.length - 1 := by
      simp [sitsB] at hk; exact hk.1.1
    obtain ⟨q, rfl⟩ : ∃ q : Nat, s = q := ⟨s.toNat, by omega⟩
    have hts : t.take (b.length + 1) = b ++ [(q : Int)] := by
      rw [take_snoc t hlt, ← hb]
      congr 2
    obtain ⟨a0, h0, _⟩ := sitF_first ht hbal m (b ++ [(q : Int)]) (by simp <;> omega) (by rw [← hts]; simp <;> omega)
    obtain ⟨j, a, hj, ha, hall, _⟩ := findSome_first (fun s : Nat => if sitsB c (guAt l b.length) b s = true then sitF c l f m (b ++ [(s : Int)]) else none) c.st.length q (by omega) (by rw [if_pos hk, h0]; rfl)
    refine ⟨a, by rw [sitF]; exact hall, ?_⟩
    split at ha
    · rename_i hjs
      by_cases hjq : j = q
      · subst hjq
        obtain ⟨a1, h1, h2⟩ := sitF_first ht hbal m (b ++ [(j : Int)]) (by simp <;> omega) (by rw [← hts]; simp <;> omega)
        rw [ha] at h1
        simp only [Option.some.injEq] at h1
        subst h1
        rcases h2 with h2 | ⟨i, i1, i2, i3, i4⟩
        · exact .inl h2
        · exact .inr ⟨i, by simp at i1; omega, i2, i3, i4⟩
      · right
        -- a begins with b ++ [j]
        have hsd : ∀ (m : Nat) (b a : List Int), sitF c l f m b = some a → a.take b.length = b ∧ b.length ≤ a.length := by
          intro m
          induction m with
          | zero => intro b a h; rw [sitF] at h; split at h <;> simp at h; subst h; simp
          | succ m ih =>
            intro b a h
            rw [sitF] at h
            obtain ⟨s, _, h1⟩ := List.exists_of_findSome?_eq_some h
            split at h1
            · obtain ⟨k1, k2⟩ := ih _ _ h1
              have := congrArg (List.take b.length) k1
              rw [List.take_take, List.take_left' rfl] at this
              exact ⟨by simpa [Nat.min_eq_left] using this, by simp at k2; omega⟩
            · simp at h1
        obtain ⟨k1, k2⟩ := hsd _ _ _ ha
        have k2' : b.length + 1 ≤ a.length := by simpa using k2
        refine ⟨b.length, Nat.le_refl _, by omega, ?_, ?_⟩
        · have := congrArg (List.take b.length) k1
          rw [List.take_take, List.take_left' rfl] at this
          rw [← hb]
          simpa [Nat.min_eq_left] using this
        · have : a.getD b.length 0 = (j : Int) := by
            have h3 : (a.take (b ++ [(j : Int)]).length).getD b.length 0 = (b ++ [(j : Int)]).getD b.length 0 := by rw [k1]
            simp [List.getD, List.getElem?_take] at h3
            simpa [List.getD] using h3
          rw [this, hs]; omega
    · simp at ha
end Go.Sx
end
section
/- Crew, plain: the rules as the program computes them, with numbers that wrap; of valid duties they are the plain ones. No conditions. -/
set_option linter.unusedSimpArgs false
set_option linter.unusedSectionVars false
namespace Go.Sx
abbrev wr (n : Int) : Int := IntKind.wrap .i64 n
def strW (a b : Int) : Bool := decide (0 ≤ a ∧ a ≤ wr (b - 1)) && decide (b ≤ 2000)
def restW (r : Ro) (x y : Du) : Bool := if y.a < x.a then decide (wr (y.b + r.rst) ≤ x.a) else decide (wr (x.b + r.rst) ≤ y.a)
def nearW (r : Ro) (x d : Du) : Bool := decide (0 ≤ wr (x.a - d.b) ∧ wr (x.a - d.b) ≤ r.rcn)
def recW (r : Ro) (o : List Du) (x : Du) : Bool := decide (x.a ≤ r.rcn) || o.any (nearW r x)
def swpW (to : Int) : List Du → Int → Int → Int
  | [], _, n => n
  | d :: r, done, n => if max d.a done < min d.b to then swpW to r (min d.b to) (wr (n + wr (min d.b to - max d.a done))) else swpW to r done n
section
variable (srt : List Du → List Du)
/-- In how many ticks of a window one works; the duties are sorted so. -/
def wkW (l : List Du) (x y : Int) : Int := swpW y (srt l) x 0
def totW (l : List Du) (W T : Int) : Bool := l.all fun d => decide (wkW srt l d.a (wr (d.a + W)) ≤ T) && decide (wkW srt l (wr (d.b - W)) d.b ≤ T)
def brkW (r : Ro) (o : List Du) (x : Du) : List Int :=
  (if (o.any fun d => !restW r d x) = true then [3] else []) ++ (if r.lng < wr (x.b - x.a) then [4] else []) ++ (if totW srt (o ++ [x]) r.win r.tot = true then [] else [5]) ++ (if recW r o x = true then [] else [6])
def duOkW (r : Ro) (l : List Du) (i : Nat) : Bool :=
  decide (0 ≤ (duAt l i).p ∧ (duAt l i).p ≤ r.ppl.length - 1) && strW (duAt l i).a (duAt l i).b && (decide (i = 0) || decide ((duAt l (i - 1)).a ≤ (duAt l i).a)) && (brkW srt r (own (l.take i) (duAt l i).p) (duAt l i)).isEmpty
def badDuW (r : Ro) (l : List Du) : Int := idxZ (List.range l.length) fun i => !duOkW srt r l i
def chkEW (r : Ro) (l : List Du) : Int × Int := if r.ok = true then (if 60 < l.length then (0, 2) else if 0 ≤ badDuW srt r l then (badDuW srt r l, 101) else (0, 0)) else (0, 100)
def whyW (r : Ro) (l : List Du) (n : Int) (c : Cl) : List Int :=
  (if bit1 (pnAt r n).rat c.craft = true then [] else [1]) ++ (if c.water = true ∧ (pnAt r n).dive < c.b then [2] else []) ++ brkW srt r (own l n) ⟨n, c.a, c.b⟩
def callW (c : Cl) : Bool := strW c.a c.b && decide (0 ≤ c.craft ∧ c.craft ≤ 7)
def chk2W (r : Ro) (l : List Du) (b : Bool) : Int := if (chkEW srt r l).2 = 0 then (if b = true then 0 else 1) else (chkEW srt r l).2
def mayW (r : Ro) (l : List Du) (c : Cl) (i k : Nat) : Bool := decide (i ≠ k) && (decide (2 ≤ (pnAt r i).rank) && (whyW srt r l i c).isEmpty) && (decide (1 ≤ (pnAt r k).rank) && (whyW srt r l k c).isEmpty)
def crwW (r : Ro) (l : List Du) (c : Cl) : List (Int × Int) :=
  (List.range r.ppl.length).flatMap fun i : Nat => ((List.range r.ppl.length).filter fun k : Nat => mayW srt r l c i k).map fun k : Nat => ((i : Int), (k : Int))
/-- The end of the longest duty that begins at a tick: from above. -/
def untW (r : Ro) (o : List Du) (n a : Int) : Nat → Int
  | 0 => 0
  | k + 1 => if (brkW srt r o ⟨n, a, a + (k + 1 : Nat)⟩).isEmpty = true then a + (k + 1 : Nat) else untW r o n a k
end
/-- A sort by the beginnings. -/
structure SrtOk (srt : List Du → List Du) : Prop where
  perm : ∀ l, (∀ d ∈ l, 0 ≤ d.a ∧ d.a ≤ 9223372036854775807) → (srt l).Perm l
  sort : ∀ l, (∀ d ∈ l, 0 ≤ d.a ∧ d.a ≤ 9223372036854775807) → (srt l).Pairwise fun x y => x.a ≤ y.a
theorem Val.beg {l : List Du} (h : Val l) : ∀ d ∈ l, 0 ≤ d.a ∧ d.a ≤ 9223372036854775807 := fun d hd => by have := h d hd; omega
theorem strW_iff {a b : Int} (hb : -9223372036854775808 < b) (hb2 : b ≤ 9223372036854775807) : strW a b = strB a b := by
  unfold strW strB; rw [show wr (b - 1) = b - 1 from wrap_id (by omega) (by omega)]
theorem strW_beg {a b : Int} (h : strW a b = true) : 0 ≤ a ∧ a ≤ 9223372036854775807 := by
  simp [strW] at h
  have : wr (b - 1) ≤ 9223372036854775807 := by
    rw [wr, IntKind.wrap_i64]; omega
  omega
theorem swpW_eq {to : Int} (hto : to ≤ 1000000) : ∀ (l : List Du) (done n : Int), Val l → -1000000 ≤ done → done ≤ to → 0 ≤ n → n ≤ done + 1000000 → swpW to l done n = swp to l done n
  | [], _, _, _, _, _, _, _ => rfl
  | d :: r, done, n, hv, h1, h2, h3, h4 => by
    have hd := hv d (by simp)
    rw [swpW, swp]
    split
    · rename_i h
      rw [show wr (min d.b to - max d.a done) = min d.b to - max d.a done from wrap_id (by omega) (by omega), show wr (n + (min d.b to - max d.a done)) = n + (min d.b to - max d.a done) from wrap_id (by omega) (by omega)]
      exact swpW_eq hto r _ _ (fun x hx => hv x (by simp [hx])) (by omega) (by omega) (by omega) (by omega)
    · exact swpW_eq hto r _ _ (fun x hx => hv x (by simp [hx])) h1 h2 h3 h4
section
variable {srt : List Du → List Du} (hs : SrtOk srt)
include hs
theorem wkW_eq {l : List Du} (hv : Val l) {x y : Int} (hx : -1000000 ≤ x) (hxy : x ≤ y) (hy : y ≤ 1000000) : wkW srt l x y = wk l x y := by
  have hp := hs.perm l hv.beg
  have hv' : Val (srt l) := fun d hd => hv d (hp.mem_iff.1 hd)
  rw [wkW, swpW_eq hy (srt l) x 0 hv' hx hxy (by omega) (by omega), wk_sorted hp (hs.sort l hv.beg) hxy]
theorem totW_eq {l : List Du} (hv : Val l) {W T : Int} (hW : 1 ≤ W ∧ W ≤ 2000) : totW srt l W T = totB l W T := by
  unfold totW totB
  rw [Bool.eq_iff_iff, List.all_eq_true, List.all_eq_true]
  refine forall_congr' fun d => forall_congr' fun hd => ?_
  have := hv d hd
  rw [show wr (d.a + W) = d.a + W from wrap_id (by omega) (by omega), show wr (d.b - W) = d.b - W from wrap_id (by omega) (by omega), wkW_eq hs hv (by omega) (by omega) (by omega), wkW_eq hs hv (by omega) (by omega) (by omega)]
theorem brkW_eq {r : Ro} (hr : r.Fit) {o : List Du} (hv : Val o) {x : Du} (hx : 0 ≤ x.a ∧ x.a < x.b ∧ x.b ≤ 2000) : brkW srt r o x = brk r o x := by
  have h1 := hr.rst
  have e1 : (o.any fun d => !restW r d x) = !(o.all fun d => restB r d x) := by
    rw [List.not_all_eq_any_not, Bool.eq_iff_iff, List.any_eq_true, List.any_eq_true]
    refine exists_congr fun d => and_congr_right fun hd => ?_
    have := hv d hd
    unfold restW restB
    rw [show wr (x.b + r.rst) = x.b + r.rst from wrap_id (by omega) (by omega), show wr (d.b + r.rst) = d.b + r.rst from wrap_id (by omega) (by omega)]
  have e2 : recW r o x = recB r o x := by
    unfold recW recB nearW
    congr 1
    rw [Bool.eq_iff_iff, List.any_eq_true, List.any_eq_true]
    refine exists_congr fun d => and_congr_right fun hd => ?_
    have := hv d hd
    rw [show wr (x.a - d.b) = x.a - d.b from wrap_id (by omega) (by omega)]
  have hv' : Val (o ++ [x]) := fun d hd => by
    rcases List.mem_append.1 hd with h | h
    · exact hv d h
    · have := List.mem_singleton.1 h; subst this; exact hx
  unfold brkW brk
  rw [e1, e2, totW_eq hs hv' hr.win, show wr (x.b - x.a) = x.b - x.a from wrap_id (by omega) (by omega)]
  cases (o.all fun d => restB r d x) <;> simp
theorem whyW_eq {r : Ro} (hr : r.Fit) {l : List Du} (hv : Val l) {n : Int} {c : Cl} (hc : 0 ≤ c.a ∧ c.a < c.b ∧ c.b ≤ 2000) : whyW srt r l n c = whyL r l n c := by
  unfold whyW whyL; rw [brkW_eq hs hr (own_val hv n) hc]
theorem untW_eq {r : Ro} (hr : r.Fit) {o : List Du} (hv : Val o) {n a : Int} (ha : 0 ≤ a) : ∀ k : Nat, a + k ≤ 2000 → untW srt r o n a k = untL r o n a k
  | 0, _ => rfl
  | k + 1, hk => by
    rw [untW, untL, brkW_eq hs hr hv ⟨ha, by simp only; omega, hk⟩, untW_eq hr hv ha k (by omega)]
/-- Right duties are right as the program computes. -/
theorem Rt.duOkW {r : Ro} (hr : r.Fit) {l : List Du} {i : Nat} (hi : i < l.length) (h : Rt r l (i + 1)) : duOkW srt r l i = true := by
  have hk := h i (by omega)
  have hk' := duOk_iff.1 hk
  have hv := Rt.val (n := i) (by omega) fun j hj => h j (by omega)
  unfold Sx.duOkW
  unfold duOk at hk
  rw [strW_iff (by omega) (by omega), brkW_eq hs hr (own_val hv _) hk'.2.1]
  exact hk
theorem chkEW_of {r : Ro} {l : List Du} (h : (chkE r l).2 = 0) : chkEW srt r l = (0, 0) := by
  obtain ⟨h1, h2, h3⟩ := chkE_zero.1 h
  have : badDuW srt r l = -1 := idxZ_none _ _ fun j hj => by
    simp at hj ⊢
    exact Rt.duOkW hs h1 hj fun i hi => h3 i (by omega)
  unfold chkEW
  rw [if_pos (Ro.ok_iff.2 h1), if_neg (by omega), if_neg (by rw [this]; omega)]
end
end Go.Sx
end
section
/- Crew, plain: easier rules forbid nothing new; a duty of who may fly a call can be put behind all others; the center with any fuel between. No conditions. -/
set_option linter.unusedSimpArgs false
set_option linter.unusedSectionVars false
namespace Go.Sx

/-! fuel -/
theorem lin_ge {A B lo hi f : Int} (h1 : 0 ≤ A + lo * B) (h2 : 0 ≤ A + hi * B) (a : lo ≤ f) (b : f ≤ hi) : 0 ≤ A + f * B := by
  rcases Int.le_total 0 B with h | h
  · have := Int.mul_le_mul_of_nonneg_right a h; omega
  · have := Int.mul_le_mul_of_nonpos_right b h; omega
theorem ct_lo (c : Ca) (l : List Gu) (s : List Int) (L f : Int) : L * wgt c l f ≤ mom c l s f ↔ 0 ≤ (c.emp * c.arm + mTo c l s l.length - L * (c.emp + wTo l l.length)) + f * (c.farm - L) := by
  unfold wgt mom
  rw [Int.mul_add, Int.mul_sub, Int.mul_comm f L]; omega
theorem ct_hi (c : Ca) (l : List Gu) (s : List Int) (L f : Int) : mom c l s f ≤ L * wgt c l f ↔ 0 ≤ (L * (c.emp + wTo l l.length) - (c.emp * c.arm + mTo c l s l.length)) + f * (L - c.farm) := by
  unfold wgt mom
  rw [Int.mul_add, Int.mul_sub, Int.mul_comm f L]; omega
theorem between_lo {c : Ca} {l : List Gu} {s : List Int} {L lo hi f : Int} (h1 : L * wgt c l lo ≤ mom c l s lo) (h2 : L * wgt c l hi ≤ mom c l s hi) (a : lo ≤ f) (b : f ≤ hi) : L * wgt c l f ≤ mom c l s f := by
  rw [ct_lo] at *; exact lin_ge h1 h2 a b
theorem between_hi {c : Ca} {l : List Gu} {s : List Int} {L lo hi f : Int} (h1 : mom c l s lo ≤ L * wgt c l lo) (h2 : mom c l s hi ≤ L * wgt c l hi) (a : lo ≤ f) (b : f ≤ hi) : mom c l s f ≤ L * wgt c l f := by
  rw [ct_hi] at *; exact lin_ge h1 h2 a b
theorem wgt_pos {c : Ca} {l : List Gu} {f : Sp} (h : LFit c l f) {x : Int} (hx : 0 ≤ x) : 0 < wgt c l x := by
  have := (wTo_bd h.gf l.length (Nat.le_refl _)).1
  have := h.cf.emp
  unfold wgt; omega
theorem fuel_bal {c : Ca} {l : List Gu} {f : Sp} {s : List Int} (hb : balB c l f s = true) {x : Int} (h1 : f.lo ≤ x) (h2 : x ≤ f.hi) : ctB c (wgt c l x) (mom c l s x) = true := by
  unfold balB ctB at hb
  simp only [Bool.and_eq_true, decide_eq_true_eq] at hb
  unfold ctB
  rw [decide_eq_true_eq]
  exact ⟨between_lo hb.1.1 hb.2.1 h1 h2, between_hi hb.1.2 hb.2.2 h1 h2⟩
theorem fuel_part {c : Ca} {l : List Gu} {f : Sp} {s : List Int} (hb : balB c l f s = true) {x y : Int} (h1 : f.lo ≤ x) (h2 : x ≤ f.hi) (h3 : f.lo ≤ y) (h4 : y ≤ f.hi) : balB c l ⟨min x y, max x y⟩ s = true := by
  unfold balB
  rw [Bool.and_eq_true]
  exact ⟨fuel_bal hb (by simp only; omega) (by simp only; omega), fuel_bal hb (by simp only; omega) (by simp only; omega)⟩
theorem le_floor {L m w : Int} (hw : 0 < w) (h : L ≤ m / w) : L * w ≤ m := by
  have := Int.mul_le_mul_of_nonneg_right h (Int.le_of_lt hw)
  have := Int.ediv_mul_le m (Int.ne_of_gt hw)
  omega
theorem fuel_center {c : Ca} {l : List Gu} {f : Sp} {s : List Int} (h : LFit c l f) {x : Int} (h1 : f.lo ≤ x) (h2 : x ≤ f.hi) : (cenL c l f s).lo * wgt c l x ≤ mom c l s x ∧ mom c l s x ≤ (cenL c l f s).hi * wgt c l x := by
  have w1 := wgt_pos h h.ff.1
  have w2 := wgt_pos h (x := f.hi) (by have := h.ff; omega)
  constructor
  · refine between_lo (le_floor w1 ?_) (le_floor w2 ?_) h1 h2
    · unfold cenL; simp only; omega
    · unfold cenL; simp only; omega
  · refine between_hi ?_ ?_ h1 h2
    · have := le_floor (L := -(cenL c l f s).hi) (m := -mom c l s f.lo) w1 (by unfold cenL; simp only; omega)
      rw [Int.neg_mul] at this; omega
    · have := le_floor (L := -(cenL c l f s).hi) (m := -mom c l s f.hi) w2 (by unfold cenL; simp only; omega)
      rw [Int.neg_mul] at this; omega
/-- The program's floor. -/
theorem floor_prog (m w : Int) (hw : 0 < w) : (if m.tmod w < 0 then m.tdiv w - 1 else m.tdiv w) = m / w := by
  rcases Int.le_total 0 m with h | h
  · rw [Int.tdiv_eq_ediv_of_nonneg h, Int.tmod_eq_emod_of_nonneg h, if_neg (by have := Int.emod_nonneg m (Int.ne_of_gt hw); omega)]
  · obtain ⟨k, rfl⟩ : ∃ k, m = -k := ⟨-m, by omega⟩
    have hk : 0 ≤ k := by omega
    rw [Int.neg_tmod, Int.neg_tdiv, Int.tdiv_eq_ediv_of_nonneg hk, Int.tmod_eq_emod_of_nonneg hk]
    have e := Int.mul_ediv_add_emod k w
    have e2 := Int.emod_nonneg k (Int.ne_of_gt hw)
    have e3 := Int.emod_lt_of_pos k hw
    generalize k / w = q at *
    generalize k % w = t at *
    split
    · rename_i h0
      symm
      rw [Int.ediv_eq_iff_of_pos hw]
      constructor
      · rw [Int.sub_mul, Int.neg_mul, Int.mul_comm q w]; omega
      · rw [Int.sub_mul, Int.neg_mul, Int.mul_comm q w]; omega
    · rename_i h0
      symm
      rw [Int.ediv_eq_iff_of_pos hw]
      constructor
      · rw [Int.neg_mul, Int.mul_comm q w]; omega
      · rw [Int.neg_mul, Int.mul_comm q w]; omega
/-- The reference's floor. -/
theorem floor_ref (m w : Int) (hw : 0 < w) (hm : m < 0) : -((-m + w - 1).tdiv w) = m / w := by
  obtain ⟨k, rfl⟩ : ∃ k, m = -k := ⟨-m, by omega⟩
  rw [Int.tdiv_eq_ediv_of_nonneg (by omega)]
  symm
  rw [Int.ediv_eq_iff_of_pos hw]
  have e := Int.mul_ediv_add_emod (- -k + w - 1) w
  have e2 := Int.emod_nonneg (- -k + w - 1) (Int.ne_of_gt hw)
  have e3 := Int.emod_lt_of_pos (- -k + w - 1) hw
  generalize (- -k + w - 1) / w = q at *
  generalize (- -k + w - 1) % w = t at *
  constructor
  · rw [Int.neg_mul, Int.mul_comm q w]; omega
  · rw [Int.neg_mul, Int.mul_comm q w]; omega

/-! easier rules -/
structure Eas (r r' : Ro) : Prop where
  ppl : r'.ppl = r.ppl
  win : r'.win = r.win
  lng : r.lng ≤ r'.lng
  rst : r'.rst ≤ r.rst
  tot : r.tot ≤ r'.tot
  rcn : r.rcn ≤ r'.rcn
section
variable (srt : List Du → List Du)
theorem totW_mono {l : List Du} {W T T' : Int} (h : T ≤ T') (ht : totW srt l W T = true) : totW srt l W T' = true := by
  unfold totW at *
  rw [List.all_eq_true] at *
  intro d hd
  have := ht d hd
  simp only [Bool.and_eq_true, decide_eq_true_eq] at *
  omega
theorem restW_mono {r r' : Ro} (he : Eas r r') (h1 : 0 ≤ r'.rst) (h2 : r.rst ≤ 2000) {x y : Du} (hx : -9223372036854775808 ≤ x.b ∧ x.b ≤ 2000) (hy : -9223372036854775808 ≤ y.b ∧ y.b ≤ 2000) (h : restW r x y = true) : restW r' x y = true := by
  have := he.rst
  unfold restW at *
  rw [show wr (y.b + r.rst) = y.b + r.rst from wrap_id (by omega) (by omega), show wr (x.b + r.rst) = x.b + r.rst from wrap_id (by omega) (by omega)] at h
  rw [show wr (y.b + r'.rst) = y.b + r'.rst from wrap_id (by omega) (by omega), show wr (x.b + r'.rst) = x.b + r'.rst from wrap_id (by omega) (by omega)]
  split at h
  · rw [if_pos (by assumption)]; simp only [decide_eq_true_eq] at *; omega
  · rw [if_neg (by assumption)]; simp only [decide_eq_true_eq] at *; omega
theorem recW_mono {r r' : Ro} (he : Eas r r') {o : List Du} {x : Du} (h : recW r o x = true) : recW r' o x = true := by
  have := he.rcn
  unfold recW at *
  simp only [Bool.or_eq_true, decide_eq_true_eq, List.any_eq_true] at *
  rcases h with h | ⟨d, hd, h⟩
  · left; omega
  · right; refine ⟨d, hd, ?_⟩
    unfold nearW at *; simp only [decide_eq_true_eq] at *; omega
/-- Ends of duties that are no greater than the last tick. -/
def Low (l : List Du) : Prop := ∀ d ∈ l, -9223372036854775808 ≤ d.b ∧ d.b ≤ 2000
theorem brkW_mono {r r' : Ro} (he : Eas r r') (h1 : 0 ≤ r'.rst) (h2 : r.rst ≤ 2000) {o : List Du} {x : Du} (ho : Low o) (hx : -9223372036854775808 ≤ x.b ∧ x.b ≤ 2000) {n : Int} (h : n ∈ brkW srt r' o x) : n ∈ brkW srt r o x := by
  unfold brkW at *
  simp only [List.mem_append] at *
  rcases h with ((h | h) | h) | h
  · left; left; left
    split at h
    · rename_i h3
      rw [if_pos]; exact h
      rw [List.any_eq_true] at *
      obtain ⟨d, hd, h4⟩ := h3
      refine ⟨d, hd, ?_⟩
      cases h5 : restW r d x
      · rfl
      · rw [restW_mono he h1 h2 (ho d hd) hx h5] at h4; exact h4
    · simp at h
  · left; left; right
    split at h
    · rw [if_pos]; exact h
      have := he.lng; omega
    · simp at h
  · left; right
    split at h
    · simp at h
    · rename_i h3
      rw [if_neg]; exact h
      intro h4
      exact h3 (he.win ▸ totW_mono srt he.tot h4)
  · right
    split at h
    · simp at h
    · rename_i h3
      rw [if_neg]; exact h
      intro h4
      exact h3 (recW_mono he h4)
theorem brkW_mono_nil {r r' : Ro} (he : Eas r r') (h1 : 0 ≤ r'.rst) (h2 : r.rst ≤ 2000) {o : List Du} {x : Du} (ho : Low o) (hx : -9223372036854775808 ≤ x.b ∧ x.b ≤ 2000) (h : (brkW srt r o x).isEmpty = true) : (brkW srt r' o x).isEmpty = true := by
  rw [List.isEmpty_iff] at *
  rw [List.eq_nil_iff_forall_not_mem] at *
  exact fun n hn => h n (brkW_mono srt he h1 h2 ho hx hn)
theorem strW_low {a b : Int} (h : strW a b = true) : b ≤ 2000 := by
  unfold strW at h; simp only [Bool.and_eq_true, decide_eq_true_eq] at h; exact h.2
/-- Duties that are right stay right. -/
theorem chkEW_easier {r r' : Ro} (he : Eas r r') (h1 : 0 ≤ r'.rst) (hok : r'.ok = true) {l : List Du} (hl : ∀ d ∈ l, -9223372036854775808 ≤ d.b) (h : (chkEW srt r l).2 = 0) : (chkEW srt r' l).2 = 0 := by
  unfold chkEW at *
  split at h
  · rename_i g1
    have hf := Ro.ok_iff.1 g1
    split at h
    · simp at h
    · rename_i g2
      split at h
      · simp at h
      · rename_i g3
        have hall : ∀ j, j < l.length → duOkW srt r l j = true := by
          intro j hj
          apply Classical.byContradiction
          intro hne
          have h0 := idxZ_any (List.range l.length) (fun i => !duOkW srt r l i)
          rw [decide_eq_false (by rw [badDuW] at g3; exact g3)] at h0
          have := (List.any_eq_false.1 h0.symm) j (List.mem_range.2 hj)
          simp at this; exact hne this
        have hlow : ∀ j, j < l.length → (duAt l j).b ≤ 2000 := fun j hj => by
          have := hall j hj
          unfold duOkW at this
          simp only [Bool.and_eq_true] at this
          exact strW_low this.1.1.2
        have hlo : Low l := fun d hd => by
          refine ⟨hl d hd, ?_⟩
          obtain ⟨j, hj, rfl⟩ := List.getElem_of_mem hd
          have := hlow j hj
          rwa [show duAt l j = l[j] by simp [duAt, List.getD, hj]] at this
        have hall' : ∀ j, j < l.length → duOkW srt r' l j = true := fun j hj => by
          have := hall j hj
          unfold duOkW at *
          simp only [Bool.and_eq_true] at *
          obtain ⟨⟨⟨a1, a2⟩, a3⟩, a4⟩ := this
          refine ⟨⟨⟨by rw [he.ppl]; exact a1, a2⟩, a3⟩, brkW_mono_nil srt he h1 hf.rst.2 ?_ ?_ a4⟩
          · intro d hd
            exact hlo d (List.mem_of_mem_take (own_mem.1 hd).1)
          · exact hlo _ (by rw [show duAt l j = l[j] by simp [duAt, List.getD, hj]]; exact List.getElem_mem hj)
        rw [if_pos hok, if_neg g2, if_neg]
        rw [badDuW, idxZ_none _ _ fun j hj => by simp at hj ⊢; exact hall' j hj]
        omega
  · simp at h
theorem chkEW_low {r : Ro} {l : List Du} (hl : ∀ d ∈ l, -9223372036854775808 ≤ d.b) (h : (chkEW srt r l).2 = 0) : Low l := by
  unfold chkEW at *
  split at h
  · split at h
    · simp at h
    · split at h
      · simp at h
      · rename_i g3
        intro d hd
        refine ⟨hl d hd, ?_⟩
        obtain ⟨j, hj, rfl⟩ := List.getElem_of_mem hd
        have hok : duOkW srt r l j = true := by
          apply Classical.byContradiction
          intro hne
          have h0 := idxZ_any (List.range l.length) (fun i => !duOkW srt r l i)
          rw [decide_eq_false (by rw [badDuW] at g3; exact g3)] at h0
          have := (List.any_eq_false.1 h0.symm) j (List.mem_range.2 hj)
          simp at this; exact hne this
        unfold duOkW at hok
        simp only [Bool.and_eq_true] at hok
        have := strW_low hok.1.1.2
        rwa [show duAt l j = l[j] by simp [duAt, List.getD, hj]] at this
  · simp at h
theorem whyW_mono {r r' : Ro} (he : Eas r r') (h1 : 0 ≤ r'.rst) (h2 : r.rst ≤ 2000) {l : List Du} {n : Int} {c : Cl} (hl : Low l) (hc : -9223372036854775808 ≤ c.b ∧ c.b ≤ 2000) {k : Int} (h : k ∈ whyW srt r' l n c) : k ∈ whyW srt r l n c := by
  have hp : pnAt r' n = pnAt r n := by unfold pnAt; rw [he.ppl]
  unfold whyW at *
  rw [hp] at h
  simp only [List.mem_append] at *
  rcases h with h | h
  · exact .inl h
  · exact .inr (brkW_mono srt he h1 h2 (fun d hd => hl d (own_mem.1 hd).1) hc h)
end

/-! one more duty, or two -/
theorem own_other {l : List Du} {d : Du} {n : Int} (h : d.p ≠ n) : own (l ++ [d]) n = own l n := by
  simp [own, List.filter_append, h]
theorem duAt_app {l : List Du} {m : List Du} {i : Nat} (h : i < l.length) : duAt (l ++ m) i = duAt l i := by
  simp [duAt, List.getD, List.getElem?_append_left h]
theorem duOk_app {r : Ro} {l m : List Du} {i : Nat} (h : i < l.length) : duOk r (l ++ m) i = duOk r l i := by
  unfold duOk
  rw [duAt_app h, List.take_append_of_le_length (by omega)]
  cases i with
  | zero => rfl
  | succ i => rw [show i + 1 - 1 = i by omega, duAt_app (by omega)]
theorem Rt.snoc {r : Ro} {l : List Du} {d : Du} (h : Rt r l l.length) (hp : 0 ≤ d.p ∧ d.p ≤ r.ppl.length - 1) (hd : 0 ≤ d.a ∧ d.a < d.b ∧ d.b ≤ 2000) (hl : l = [] ∨ (duAt l (l.length - 1)).a ≤ d.a) (hb : brk r (own l d.p) d = []) : Rt r (l ++ [d]) (l ++ [d]).length := by
  intro i hi
  simp at hi
  by_cases hil : i < l.length
  · rw [duOk_app hil]; exact h i hil
  · have : i = l.length := by omega
    subst this
    have e : duAt (l ++ [d]) l.length = d := by simp [duAt, List.getD]
    unfold duOk
    rw [e, List.take_left' rfl, hb]
    simp only [Bool.and_eq_true]
    refine ⟨⟨⟨decide_eq_true hp, strB_iff.2 hd⟩, ?_⟩, rfl⟩
    rcases hl with hl | hl
    · simp [hl]
    · by_cases h0 : l.length = 0
      · simp [h0]
      · rw [duAt_app (by omega)]
        simp [hl]
end Go.Sx
end
