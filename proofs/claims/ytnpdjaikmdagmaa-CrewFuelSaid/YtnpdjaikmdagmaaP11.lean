/- A part of a proof; no conditions. -/
import Derived.Test.YtnpdjaikmdagmaaP10
set_option linter.unusedSimpArgs false
set_option linter.unusedVariables false
set_option linter.unusedSectionVars false
section
/- Crew, plain: rosters, duties, the rules that a duty breaks; the reference's. No conditions. -/
set_option linter.unusedSimpArgs false
set_option linter.unusedSectionVars false
namespace Go.Sx

structure Pn where
  rat : Int
  rank : Int
  dive : Int
  deriving DecidableEq, Inhabited
def Pn.row (p : Pn) : List V := [.int .i64 p.rat, .int .i64 p.rank, .int .i64 p.dive]
theorem Pn.row_inj (a b : Pn) (h : a.row = b.row) : a = b := by
  cases a; cases b; simp [Pn.row] at h; simp [h]
def Du.row (p : Du) : List V := [.int .i64 p.p, .int .i64 p.a, .int .i64 p.b]
theorem Du.row_inj (a b : Du) (h : a.row = b.row) : a = b := by
  cases a; cases b; simp [Du.row] at h; simp [h]
structure Ro where
  ppl : List Pn
  lng : Int
  rst : Int
  win : Int
  tot : Int
  rcn : Int
  deriving DecidableEq, Inhabited
def pplV (l : List Pn) : V := .sl 3 (l.map Pn.row)
def dusV (l : List Du) : V := .sl 3 (l.map Du.row)
def Ro.row (r : Ro) : List V := [pplV r.ppl, .int .i64 r.lng, .int .i64 r.rst, .int .i64 r.win, .int .i64 r.tot, .int .i64 r.rcn]
theorem mapRow_inj {α : Type} {f : α → List V} (hf : ∀ a b, f a = f b → a = b) : ∀ {a b : List α}, a.map f = b.map f → a = b
  | [], [], _ => rfl
  | [], _ :: _, h => by simp at h
  | _ :: _, [], h => by simp at h
  | x :: a, y :: b, h => by
    simp only [List.map_cons, List.cons.injEq] at h
    rw [hf _ _ h.1, mapRow_inj hf h.2]
theorem Ro.row_inj (a b : Ro) (h : a.row = b.row) : a = b := by
  cases a; cases b
  simp only [Ro.row, pplV, List.cons.injEq, V.sl.injEq, V.int.injEq, true_and, and_true] at h
  obtain ⟨h1, h2, h3, h4, h5, h6⟩ := h
  rw [mapRow_inj Pn.row_inj h1, h2, h3, h4, h5, h6]
structure Cl where
  a : Int
  b : Int
  craft : Int
  water : Bool
  deriving DecidableEq, Inhabited
def Cl.row (c : Cl) : List V := [.int .i64 c.a, .int .i64 c.b, .int .i64 c.craft, .bool c.water]
theorem Cl.row_inj (a b : Cl) (h : a.row = b.row) : a = b := by
  cases a; cases b; simp [Cl.row] at h; simp [h]

def Pn.ok (p : Pn) : Bool := decide (0 ≤ p.rat ∧ p.rat ≤ 255) && decide (0 ≤ p.rank ∧ p.rank ≤ 3) && decide (0 ≤ p.dive ∧ p.dive ≤ 2000)
/-- Whether a roster is valid. -/
def Ro.ok (r : Ro) : Bool := decide (r.ppl.length ≤ 12) && r.ppl.all Pn.ok && decide (1 ≤ r.lng ∧ r.lng ≤ 2000) && decide (0 ≤ r.rst ∧ r.rst ≤ 2000) && decide (1 ≤ r.win ∧ r.win ≤ 2000) && decide (1 ≤ r.rcn ∧ r.rcn ≤ 2000) && decide (1 ≤ r.tot ∧ r.tot ≤ r.win)
structure Ro.Fit (r : Ro) : Prop where
  n : r.ppl.length ≤ 12
  p : ∀ p ∈ r.ppl, p.ok = true
  lng : 1 ≤ r.lng ∧ r.lng ≤ 2000
  rst : 0 ≤ r.rst ∧ r.rst ≤ 2000
  win : 1 ≤ r.win ∧ r.win ≤ 2000
  rcn : 1 ≤ r.rcn ∧ r.rcn ≤ 2000
  tot : 1 ≤ r.tot ∧ r.tot ≤ r.win
theorem Ro.ok_iff {r : Ro} : r.ok = true ↔ r.Fit := by
  constructor
  · intro h
    simp [Ro.ok] at h
    obtain ⟨⟨⟨⟨⟨⟨h1, h2⟩, h3⟩, h4⟩, h5⟩, h6⟩, h7⟩ := h
    exact ⟨h1, h2, h3, h4, h5, h6, h7⟩
  · rintro ⟨h1, h2, h3, h4, h5, h6, h7⟩
    simp [Ro.ok]
    exact ⟨⟨⟨⟨⟨⟨h1, h2⟩, h3⟩, h4⟩, h5⟩, h6⟩, h7⟩

/-- Ticks of a duty or a call. -/
def strB (a b : Int) : Bool := decide (0 ≤ a ∧ a ≤ b - 1) && decide (b ≤ 2000)
theorem strB_iff {a b : Int} : strB a b = true ↔ 0 ≤ a ∧ a < b ∧ b ≤ 2000 := by
  simp [strB]; omega
/-- Duties of valid ticks. -/
def Val (l : List Du) : Prop := ∀ d ∈ l, 0 ≤ d.a ∧ d.a < d.b ∧ d.b ≤ 2000
def own (l : List Du) (n : Int) : List Du := l.filter fun d => decide (d.p = n)
theorem own_val {l : List Du} (h : Val l) (n : Int) : Val (own l n) := fun d hd => h d (List.mem_filter.1 hd).1
theorem own_len (l : List Du) (n : Int) : (own l n).length ≤ l.length := List.length_filter_le ..
def restB (r : Ro) (x y : Du) : Bool := if y.a < x.a then decide (y.b + r.rst ≤ x.a) else decide (x.b + r.rst ≤ y.a)
def recB (r : Ro) (o : List Du) (x : Du) : Bool := decide (x.a ≤ r.rcn) || o.any fun d => decide (0 ≤ x.a - d.b ∧ x.a - d.b ≤ r.rcn)
/-- The rules that a duty breaks beside others of the same person. -/
def brk (r : Ro) (o : List Du) (x : Du) : List Int :=
  (if (o.all fun d => restB r d x) = true then [] else [3]) ++ (if r.lng < x.b - x.a then [4] else []) ++ (if totB (o ++ [x]) r.win r.tot = true then [] else [5]) ++ (if recB r o x = true then [] else [6])
theorem brk_nil {r : Ro} {o : List Du} {x : Du} : brk r o x = [] ↔ (∀ d ∈ o, restB r d x = true) ∧ x.b - x.a ≤ r.lng ∧ totB (o ++ [x]) r.win r.tot = true ∧ recB r o x = true := by
  unfold brk
  by_cases h1 : (o.all fun d => restB r d x) = true
  · have h1' := List.all_eq_true.1 h1
    by_cases h2 : r.lng < x.b - x.a
    · simp [h2]; intro _ h; omega
    · by_cases h3 : totB (o ++ [x]) r.win r.tot = true
      · by_cases h4 : recB r o x = true
        · simp [h1, h2, h3, h4]; exact ⟨h1', by omega⟩
        · simp [h1, h2, h3, h4]
      · simp [h1, h2, h3]
  · have : ¬ ∀ d ∈ o, restB r d x = true := fun h => h1 (List.all_eq_true.2 h)
    simp [h1, this]

/-! the reference's -/
def rrest (r : Ro) (l : List Du) (d : Du) : Bool := l.all fun x => !(decide (x.p = d.p) && decide (d.a < x.b + r.rst) && decide (x.a < d.b + r.rst))
/-- The reference's count, from the first on. -/
def bsd (d : Du) (x y : Int) : List Du → Int → Int
  | [], n => n
  | z :: l, n => bsd d x y l (if z.p = d.p then n + (bus1 z x y - bus1 z (max x d.a) (min y d.b)) else n)
def rwin (r : Ro) (l : List Du) (d : Du) : Bool := (l ++ [d]).all fun z => !decide (z.p = d.p) || (decide (bsd d z.a (z.a + r.win) l (bus1 d z.a (z.a + r.win)) ≤ r.tot) && decide (bsd d (max 0 (z.b - r.win)) (max 0 (z.b - r.win) + r.win) l (bus1 d (max 0 (z.b - r.win)) (max 0 (z.b - r.win) + r.win)) ≤ r.tot))
def rrec (r : Ro) (l : List Du) (d : Du) : Bool := decide (d.a ≤ r.rcn) || l.any fun x => decide (x.p = d.p) && decide (x.b ≤ d.a) && decide (d.a - r.rcn ≤ x.b)
def rbrk (r : Ro) (l : List Du) (d : Du) : List Int :=
  (if rrest r l d = true then [] else [3]) ++ (if r.lng < d.b - d.a then [4] else []) ++ (if rwin r l d = true then [] else [5]) ++ (if rrec r l d = true then [] else [6])
theorem bsd_own (d : Du) (x y : Int) : ∀ (l : List Du) (n : Int), bsd d x y l n = n + (besd d x y (own l d.p) - bus1 d x y)
  | [], n => by simp [bsd, own, besd]
  | z :: l, n => by
    rw [bsd, bsd_own d x y l]
    by_cases h : z.p = d.p
    · rw [if_pos h, show own (z :: l) d.p = z :: own l d.p by simp [own, h], besd]; omega
    · rw [if_neg h, show own (z :: l) d.p = own l d.p by simp [own, h]]
theorem bsd_eq {d : Du} {x y : Int} {l : List Du} (h : Disj (own l d.p)) : bsd d x y l (bus1 d x y) = wk (own l d.p ++ [d]) x y := by
  rw [bsd_own, besd_eq d x y _ h]
  have : wk (d :: own l d.p) x y = wk (own l d.p ++ [d]) x y := wk_perm (by simpa using (List.perm_append_comm (l₁ := [d]) (l₂ := own l d.p))) x y
  omega
theorem own_snoc (l : List Du) (d : Du) : own (l ++ [d]) d.p = own l d.p ++ [d] := by simp [own, List.filter_append]
theorem all_own (l : List Du) (n : Int) (p : Du → Bool) : (l.all fun z => !decide (z.p = n) || p z) = (own l n).all p := by
  induction l with
  | nil => rfl
  | cons z l ih =>
    by_cases h : z.p = n
    · rw [show own (z :: l) n = z :: own l n by simp [own, h]]; simp [h, ih]
    · rw [show own (z :: l) n = own l n by simp [own, h]]; simp [h, ih]
theorem rwin_eq {r : Ro} (hr : r.Fit) {l : List Du} {d : Du} (h : Disj (own l d.p)) (hv : Val (own l d.p)) (hd : 0 ≤ d.a ∧ d.a < d.b ∧ d.b ≤ 2000) : rwin r l d = totB (own l d.p ++ [d]) r.win r.tot := by
  unfold rwin
  rw [all_own, own_snoc]
  simp only [bsd_eq h]
  rw [Bool.eq_iff_iff]
  rw [totB_iff (by have := hr.win; omega) (by have := hr.tot; omega)]
  constructor
  · intro h1 x
    refine wk_most (by have := hr.win; omega) (by have := hr.tot; omega) (fun z hz => ?_) x
    have := List.all_eq_true.1 h1 z hz
    simp at this; exact this.1
  · intro h1
    refine List.all_eq_true.2 fun z hz => ?_
    simp; exact ⟨h1 _, h1 _⟩
theorem own_mem {l : List Du} {n : Int} {x : Du} : x ∈ own l n ↔ x ∈ l ∧ x.p = n := by simp [own]
theorem rrest_eq {r : Ro} (hr : r.Fit) {l : List Du} {d : Du} (hv : Val (own l d.p)) (hd : 0 ≤ d.a ∧ d.a < d.b ∧ d.b ≤ 2000) : rrest r l d = (own l d.p).all fun x => restB r x d := by
  have hrr := hr.rst
  unfold rrest
  rw [Bool.eq_iff_iff, List.all_eq_true, List.all_eq_true]
  constructor
  · intro h x hx
    have h1 := h x (own_mem.1 hx).1
    have h2 := (own_mem.1 hx).2
    have h3 := hv x hx
    simp [h2] at h1
    unfold restB
    split
    · simp; omega
    · simp
      omega
  · intro h x hx
    by_cases h2 : x.p = d.p
    · have hx' := own_mem.2 ⟨hx, h2⟩
      have h1 := h x hx'
      have h3 := hv x hx'
      unfold restB at h1
      simp [h2]
      split at h1
      · simp at h1; omega
      · simp at h1; omega
    · simp [h2]
theorem rrec_eq {r : Ro} {l : List Du} {d : Du} : rrec r l d = recB r (own l d.p) d := by
  unfold rrec recB
  congr 1
  rw [Bool.eq_iff_iff, List.any_eq_true, List.any_eq_true]
  constructor
  · rintro ⟨x, hx, h⟩
    simp at h
    exact ⟨x, own_mem.2 ⟨hx, h.1.1⟩, by simp; omega⟩
  · rintro ⟨x, hx, h⟩
    have := own_mem.1 hx
    simp at h
    exact ⟨x, this.1, by simp [this.2]; omega⟩
/-- The reference's rules are those of the duties of one person. -/
theorem rbrk_eq {r : Ro} (hr : r.Fit) {l : List Du} {d : Du} (h : Disj (own l d.p)) (hv : Val (own l d.p)) (hd : 0 ≤ d.a ∧ d.a < d.b ∧ d.b ≤ 2000) : rbrk r l d = brk r (own l d.p) d := by
  unfold rbrk brk
  rw [rrest_eq hr hv hd, rwin_eq hr h hv hd, rrec_eq]

/-! right duties -/
def duAt (l : List Du) (i : Nat) : Du := l.getD i default
def duOk (r : Ro) (l : List Du) (i : Nat) : Bool :=
  decide (0 ≤ (duAt l i).p ∧ (duAt l i).p ≤ r.ppl.length - 1) && strB (duAt l i).a (duAt l i).b && (decide (i = 0) || decide ((duAt l (i - 1)).a ≤ (duAt l i).a)) && (brk r (own (l.take i) (duAt l i).p) (duAt l i)).isEmpty
theorem duOk_iff {r : Ro} {l : List Du} {i : Nat} : duOk r l i = true ↔ (0 ≤ (duAt l i).p ∧ (duAt l i).p ≤ r.ppl.length - 1) ∧ (0 ≤ (duAt l i).a ∧ (duAt l i).a < (duAt l i).b ∧ (duAt l i).b ≤ 2000) ∧ (i = 0 ∨ (duAt l (i - 1)).a ≤ (duAt l i).a) ∧ brk r (own (l.take i) (duAt l i).p) (duAt l i) = [] := by
  unfold duOk
  simp only [Bool.and_eq_true, strB_iff, Bool.or_eq_true, decide_eq_true_eq, List.isEmpty_iff, and_assoc]
def Rt (r : Ro) (l : List Du) (n : Nat) : Prop := ∀ i, i < n → duOk r l i = true
theorem take_snoc {α : Type} [Inhabited α] (l : List α) {n : Nat} (h : n < l.length) : l.take (n + 1) = l.take n ++ [l.getD n default] := by
  rw [List.take_add_one]; simp [List.getD, h]
theorem Rt.val {r : Ro} {l : List Du} : ∀ {n : Nat}, n ≤ l.length → Rt r l n → Val (l.take n)
  | 0, _, _ => fun d hd => by simp at hd
  | n + 1, hn, h => by
    rw [take_snoc l (by omega)]
    intro d hd
    rcases List.mem_append.1 hd with hd | hd
    · exact Rt.val (by omega) (fun i hi => h i (by omega)) d hd
    · have := List.mem_singleton.1 hd
      subst this
      exact (duOk_iff.1 (h n (by omega))).2.1
theorem rest_disj {r : Ro} (hr : 0 ≤ r.rst) {x y : Du} (h : restB r x y = true) (t : Int) : ¬ (x.on t = true ∧ y.on t = true) := by
  rintro ⟨h1, h2⟩
  simp [Du.on] at h1 h2
  unfold restB at h
  split at h <;> simp at h <;> omega
theorem Rt.disj {r : Ro} (hr : 0 ≤ r.rst) {l : List Du} (p : Int) : ∀ {n : Nat}, n ≤ l.length → Rt r l n → Disj (own (l.take n) p)
  | 0, _, _ => by simp [own, Disj]
  | n + 1, hn, h => by
    have ih := Rt.disj hr p (n := n) (by omega) (fun i hi => h i (by omega))
    rw [take_snoc l (by omega)]
    have hk := duOk_iff.1 (h n (by omega))
    change Disj (own (l.take n ++ [duAt l n]) p)
    by_cases hp : (duAt l n).p = p
    · have e : own (l.take n ++ [duAt l n]) p = own (l.take n) p ++ [duAt l n] := by simp [own, List.filter_append, hp]
      rw [e]
      refine List.pairwise_append.2 ⟨ih, List.pairwise_singleton .., fun x hx y hy => ?_⟩
      have := List.mem_singleton.1 hy
      subst this
      rw [hp] at hk
      exact rest_disj hr ((brk_nil.1 hk.2.2.2).1 x hx)
    · have e : own (l.take n ++ [duAt l n]) p = own (l.take n) p := by simp [own, List.filter_append, hp]
      rw [e]; exact ih
def badDu (r : Ro) (l : List Du) : Int := idxZ (List.range l.length) fun i => !duOk r l i
def chkE (r : Ro) (l : List Du) : Int × Int := if r.ok = true then (if 60 < l.length then (0, 2) else if 0 ≤ badDu r l then (badDu r l, 101) else (0, 0)) else (0, 100)
theorem badDu_none {r : Ro} {l : List Du} (h : badDu r l < 0) : Rt r l l.length := by
  intro i hi
  have hz := idxZ_any (List.range l.length) fun j => !duOk r l j
  have e : decide (0 ≤ idxZ (List.range l.length) fun j => !duOk r l j) = false := by
    have : idxZ (List.range l.length) (fun j => !duOk r l j) = badDu r l := rfl
    rw [this]; simp; omega
  rw [e] at hz
  have := List.any_eq_false.1 hz.symm i (by simpa using hi)
  simpa using this
theorem badDu_of {r : Ro} {l : List Du} (h : Rt r l l.length) : badDu r l = -1 := idxZ_none _ _ fun j hj => by
  simp at hj ⊢; exact h j hj
theorem chkE_zero {r : Ro} {l : List Du} : (chkE r l).2 = 0 ↔ r.Fit ∧ l.length ≤ 60 ∧ Rt r l l.length := by
  unfold chkE
  by_cases h1 : r.ok = true
  · rw [if_pos h1]
    by_cases h2 : 60 < l.length
    · rw [if_pos h2]; simp; omega
    · rw [if_neg h2]
      by_cases h3 : 0 ≤ badDu r l
      · rw [if_pos h3]; simp
        intro _ _ h; rw [badDu_of h] at h3; omega
      · rw [if_neg h3]; simp
        exact ⟨Ro.ok_iff.1 h1, by omega, badDu_none (by omega)⟩
  · rw [if_neg h1]; simp
    intro h; exact absurd (Ro.ok_iff.2 h) h1

/-! why somebody may not fly -/
def bit1 (x k : Int) : Bool := x.toNat.testBit k.toNat
def pnAt (r : Ro) (n : Int) : Pn := r.ppl.getD n.toNat default
def whyL (r : Ro) (l : List Du) (n : Int) (c : Cl) : List Int :=
  (if bit1 (pnAt r n).rat c.craft = true then [] else [1]) ++ (if c.water = true ∧ (pnAt r n).dive < c.b then [2] else []) ++ brk r (own l n) ⟨n, c.a, c.b⟩
def callB (c : Cl) : Bool := strB c.a c.b && decide (0 ≤ c.craft ∧ c.craft ≤ 7)
def perB (r : Ro) (n : Int) : Bool := decide (0 ≤ n ∧ n ≤ r.ppl.length - 1)
/-- The errors of a roster, duties and what is right beside them. -/
def chk2 (r : Ro) (l : List Du) (b : Bool) : Int := if (chkE r l).2 = 0 then (if b = true then 0 else 1) else (chkE r l).2
def mayB (r : Ro) (l : List Du) (c : Cl) (i k : Nat) : Bool := decide (i ≠ k) && (decide (2 ≤ (pnAt r i).rank) && (whyL r l i c).isEmpty) && (decide (1 ≤ (pnAt r k).rank) && (whyL r l k c).isEmpty)
def crwL (r : Ro) (l : List Du) (c : Cl) : List (Int × Int) :=
  (List.range r.ppl.length).flatMap fun i : Nat => ((List.range r.ppl.length).filter fun k : Nat => mayB r l c i k).map fun k : Nat => ((i : Int), (k : Int))
/-- The end of the longest duty that begins at a tick: from above. -/
def untL (r : Ro) (o : List Du) (n a : Int) : Nat → Int
  | 0 => 0
  | k + 1 => if (brk r o ⟨n, a, a + (k + 1 : Nat)⟩).isEmpty = true then a + (k + 1 : Nat) else untL r o n a k
end Go.Sx
end
section
/- Crew, plain: the rules as the program computes them, with numbers that wrap; of valid duties they are the plain ones. No conditions. -/
set_option linter.unusedSimpArgs false
set_option linter.unusedSectionVars false
namespace Go.Sx
abbrev wr (n : Int) : Int := IntKind.wrap .i64 n
def strW (a b : Int) : Bool := decide (0 ≤ a ∧ a ≤ wr (b - 1)) && decide (b ≤ 2000)
def restW (r : Ro) (x y : Du) : Bool := if y.a < x.a then decide (wr (y.b + r.rst) ≤ x.a) else decide (wr (x.b + r.rst) ≤ y.a)
def nearW (r : Ro) (x d : Du) : Bool := decide (0 ≤ wr (x.a - d.b) ∧ wr (x.a - d.b) ≤ r.rcn)
def recW (r : Ro) (o : List Du) (x : Du) : Bool := decide (x.a ≤ r.rcn) || o.any (nearW r x)
def swpW (to : Int) : List Du → Int → Int → Int
  | [], _, n => n
  | d :: r, done, n => if max d.a done < min d.b to then swpW to r (min d.b to) (wr (n + wr (min d.b to - max d.a done))) else swpW to r done n
section
variable (srt : List Du → List Du)
/-- In how many ticks of a window one works; the duties are sorted so. -/
def wkW (l : List Du) (x y : Int) : Int := swpW y (srt l) x 0
def totW (l : List Du) (W T : Int) : Bool := l.all fun d => decide (wkW srt l d.a (wr (d.a + W)) ≤ T) && decide (wkW srt l (wr (d.b - W)) d.b ≤ T)
def brkW (r : Ro) (o : List Du) (x : Du) : List Int :=
  (if (o.any fun d => !restW r d x) = true then [3] else []) ++ (if r.lng < wr (x.b - x.a) then [4] else []) ++ (if totW srt (o ++ [x]) r.win r.tot = true then [] else [5]) ++ (if recW r o x = true then [] else [6])
def duOkW (r : Ro) (l : List Du) (i : Nat) : Bool :=
  decide (0 ≤ (duAt l i).p ∧ (duAt l i).p ≤ r.ppl.length - 1) && strW (duAt l i).a (duAt l i).b && (decide (i = 0) || decide ((duAt l (i - 1)).a ≤ (duAt l i).a)) && (brkW srt r (own (l.take i) (duAt l i).p) (duAt l i)).isEmpty
def badDuW (r : Ro) (l : List Du) : Int := idxZ (List.range l.length) fun i => !duOkW srt r l i
def chkEW (r : Ro) (l : List Du) : Int × Int := if r.ok = true then (if 60 < l.length then (0, 2) else if 0 ≤ badDuW srt r l then (badDuW srt r l, 101) else (0, 0)) else (0, 100)
def whyW (r : Ro) (l : List Du) (n : Int) (c : Cl) : List Int :=
  (if bit1 (pnAt r n).rat c.craft = true then [] else [1]) ++ (if c.water = true ∧ (pnAt r n).dive < c.b then [2] else []) ++ brkW srt r (own l n) ⟨n, c.a, c.b⟩
def callW (c : Cl) : Bool := strW c.a c.b && decide (0 ≤ c.craft ∧ c.craft ≤ 7)
def chk2W (r : Ro) (l : List Du) (b : Bool) : Int := if (chkEW srt r l).2 = 0 then (if b = true then 0 else 1) else (chkEW srt r l).2
def mayW (r : Ro) (l : List Du) (c : Cl) (i k : Nat) : Bool := decide (i ≠ k) && (decide (2 ≤ (pnAt r i).rank) && (whyW srt r l i c).isEmpty) && (decide (1 ≤ (pnAt r k).rank) && (whyW srt r l k c).isEmpty)
def crwW (r : Ro) (l : List Du) (c : Cl) : List (Int × Int) :=
  (List.range r.ppl.length).flatMap fun i : Nat => ((List.range r.ppl.length).filter fun k : Nat => mayW srt r l c i k).map fun k : Nat => ((i : Int), (k : Int))
/-- The end of the longest duty that begins at a tick: from above. -/
def untW (r : Ro) (o : List Du) (n a : Int) : Nat → Int
  | 0 => 0
  | k + 1 => if (brkW srt r o ⟨n, a, a + (k + 1 : Nat)⟩).isEmpty = true then a + (k + 1 : Nat) else untW r o n a k
end
/-- A sort by the beginnings. -/
structure SrtOk (srt : List Du → List Du) : Prop where
  perm : ∀ l, (∀ d ∈ l, 0 ≤ d.a ∧ d.a ≤ 9223372036854775807) → (srt l).Perm l
  sort : ∀ l, (∀ d ∈ l, 0 ≤ d.a ∧ d.a ≤ 9223372036854775807) → (srt l).Pairwise fun x y => x.a ≤ y.a
theorem Val.beg {l : List Du} (h : Val l) : ∀ d ∈ l, 0 ≤ d.a ∧ d.a ≤ 9223372036854775807 := fun d hd => by have := h d hd; omega
theorem strW_iff {a b : Int} (hb : -9223372036854775808 < b) (hb2 : b ≤ 9223372036854775807) : strW a b = strB a b := by
  unfold strW strB; rw [show wr (b - 1) = b - 1 from wrap_id (by omega) (by omega)]
theorem strW_beg {a b : Int} (h : strW a b = true) : 0 ≤ a ∧ a ≤ 9223372036854775807 := by
  simp [strW] at h
  have : wr (b - 1) ≤ 9223372036854775807 := by
    rw [wr, IntKind.wrap_i64]; omega
  omega
theorem swpW_eq {to : Int} (hto : to ≤ 1000000) : ∀ (l : List Du) (done n : Int), Val l → -1000000 ≤ done → done ≤ to → 0 ≤ n → n ≤ done + 1000000 → swpW to l done n = swp to l done n
  | [], _, _, _, _, _, _, _ => rfl
  | d :: r, done, n, hv, h1, h2, h3, h4 => by
    have hd := hv d (by simp)
    rw [swpW, swp]
    split
    · rename_i h
      rw [show wr (min d.b to - max d.a done) = min d.b to - max d.a done from wrap_id (by omega) (by omega), show wr (n + (min d.b to - max d.a done)) = n + (min d.b to - max d.a done) from wrap_id (by omega) (by omega)]
      exact swpW_eq hto r _ _ (fun x hx => hv x (by simp [hx])) (by omega) (by omega) (by omega) (by omega)
    · exact swpW_eq hto r _ _ (fun x hx => hv x (by simp [hx])) h1 h2 h3 h4
section
variable {srt : List Du → List Du} (hs : SrtOk srt)
include hs
theorem wkW_eq {l : List Du} (hv : Val l) {x y : Int} (hx : -1000000 ≤ x) (hxy : x ≤ y) (hy : y ≤ 1000000) : wkW srt l x y = wk l x y := by
  have hp := hs.perm l hv.beg
  have hv' : Val (srt l) := fun d hd => hv d (hp.mem_iff.1 hd)
  rw [wkW, swpW_eq hy (srt l) x 0 hv' hx hxy (by omega) (by omega), wk_sorted hp (hs.sort l hv.beg) hxy]
theorem totW_eq {l : List Du} (hv : Val l) {W T : Int} (hW : 1 ≤ W ∧ W ≤ 2000) : totW srt l W T = totB l W T := by
  unfold totW totB
  rw [Bool.eq_iff_iff, List.all_eq_true, List.all_eq_true]
  refine forall_congr' fun d => forall_congr' fun hd => ?_
  have := hv d hd
  rw [show wr (d.a + W) = d.a + W from wrap_id (by omega) (by omega), show wr (d.b - W) = d.b - W from wrap_id (by omega) (by omega), wkW_eq hs hv (by omega) (by omega) (by omega), wkW_eq hs hv (by omega) (by omega) (by omega)]
theorem brkW_eq {r : Ro} (hr : r.Fit) {o : List Du} (hv : Val o) {x : Du} (hx : 0 ≤ x.a ∧ x.a < x.b ∧ x.b ≤ 2000) : brkW srt r o x = brk r o x := by
  have h1 := hr.rst
  have e1 : (o.any fun d => !restW r d x) = !(o.all fun d => restB r d x) := by
    rw [List.not_all_eq_any_not, Bool.eq_iff_iff, List.any_eq_true, List.any_eq_true]
    refine exists_congr fun d => and_congr_right fun hd => ?_
    have := hv d hd
    unfold restW restB
    rw [show wr (x.b + r.rst) = x.b + r.rst from wrap_id (by omega) (by omega), show wr (d.b + r.rst) = d.b + r.rst from wrap_id (by omega) (by omega)]
  have e2 : recW r o x = recB r o x := by
    unfold recW recB nearW
    congr 1
    rw [Bool.eq_iff_iff, List.any_eq_true, List.any_eq_true]
    refine exists_congr fun d => and_congr_right fun hd => ?_
    have := hv d hd
    rw [show wr (x.a - d.b) = x.a - d.b from wrap_id (by omega) (by omega)]
  have hv' : Val (o ++ [x]) := fun d hd => by
    rcases List.mem_append.1 hd with h | h
    · exact hv d h
    · have := List.mem_singleton.1 h; subst this; exact hx
  unfold brkW brk
  rw [e1, e2, totW_eq hs hv' hr.win, show wr (x.b - x.a) = x.b - x.a from wrap_id (by omega) (by omega)]
  cases (o.all fun d => restB r d x) <;> simp
theorem whyW_eq {r : Ro} (hr : r.Fit) {l : List Du} (hv : Val l) {n : Int} {c : Cl} (hc : 0 ≤ c.a ∧ c.a < c.b ∧ c.b ≤ 2000) : whyW srt r l n c = whyL r l n c := by
  unfold whyW whyL; rw [brkW_eq hs hr (own_val hv n) hc]
theorem untW_eq {r : Ro} (hr : r.Fit) {o : List Du} (hv : Val o) {n a : Int} (ha : 0 ≤ a) : ∀ k : Nat, a + k ≤ 2000 → untW srt r o n a k = untL r o n a k
  | 0, _ => rfl
  | k + 1, hk => by
    rw [untW, untL, brkW_eq hs hr hv ⟨ha, by simp only; omega, hk⟩, untW_eq hr hv ha k (by omega)]
/-- Right duties are right as the program computes. -/
theorem Rt.duOkW {r : Ro} (hr : r.Fit) {l : List Du} {i : Nat} (hi : i < l.length) (h : Rt r l (i + 1)) : duOkW srt r l i = true := by
  have hk := h i (by omega)
  have hk' := duOk_iff.1 hk
  have hv := Rt.val (n := i) (by omega) fun j hj => h j (by omega)
  unfold Sx.duOkW
  unfold duOk at hk
  rw [strW_iff (by omega) (by omega), brkW_eq hs hr (own_val hv _) hk'.2.1]
  exact hk
theorem chkEW_of {r : Ro} {l : List Du} (h : (chkE r l).2 = 0) : chkEW srt r l = (0, 0) := by
  obtain ⟨h1, h2, h3⟩ := chkE_zero.1 h
  have : badDuW srt r l = -1 := idxZ_none _ _ fun j hj => by
    simp at hj ⊢
    exact Rt.duOkW hs h1 hj fun i hi => h3 i (by omega)
  unfold chkEW
  rw [if_pos (Ro.ok_iff.2 h1), if_neg (by omega), if_neg (by rw [this]; omega)]
end
end Go.Sx
end
