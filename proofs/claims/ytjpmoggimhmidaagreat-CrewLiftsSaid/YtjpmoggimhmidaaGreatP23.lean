/- A part of a proof; no conditions. -/
import Derived.Test.YtjpmoggimhmidaaGreatP20
import Derived.Test.YtjpmoggimhmidaaGreatP22
set_option linter.unusedSimpArgs false
set_option linter.unusedVariables false
set_option linter.unusedSectionVars false
section
/- Crew, plain: rosters, duties, the rules that a duty breaks; the reference's. No conditions. -/
set_option linter.unusedSimpArgs false
set_option linter.unusedSectionVars false
namespace Go.Sx

structure Pn where
  rat : Int
  rank : Int
  dive : Int
  deriving DecidableEq, Inhabited
def Pn.row (p : Pn) : List V := [.int .i64 p.rat, .int .i64 p.rank, .int .i64 p.dive]
theorem Pn.row_inj (a b : Pn) (h : a.row = b.row) : a = b := by
  cases a; cases b; simp [Pn.row] at h; simp [h]
def Du.row (p : Du) : List V := [.int .i64 p.p, .int .i64 p.a, .int .i64 p.b]
theorem Du.row_inj (a b : Du) (h : a.row = b.row) : a = b := by
  cases a; cases b; simp [Du.row] at h; simp [h]
structure Ro where
  ppl : List Pn
  lng : Int
  rst : Int
  win : Int
  tot : Int
  rcn : Int
  deriving DecidableEq, Inhabited
def pplV (l : List Pn) : V := .sl 3 (l.map Pn.row)
def dusV (l : List Du) : V := .sl 3 (l.map Du.row)
def Ro.row (r : Ro) : List V := [pplV r.ppl, .int .i64 r.lng, .int .i64 r.rst, .int .i64 r.win, .int .i64 r.tot, .int .i64 r.rcn]
theorem mapRow_inj {α : Type} {f : α → List V} (hf : ∀ a b, f a = f b → a = b) : ∀ {a b : List α}, a.map f = b.map f → a = b
  | [], [], _ => rfl
  | [], _ :: _, h => by simp at h
  | _ :: _, [], h => by simp at h
  | x :: a, y :: b, h => by
    simp only [List.map_cons, List.cons.injEq] at h
    rw [hf _ _ h.1, mapRow_inj hf h.2]
theorem Ro.row_inj (a b : Ro) (h : a.row = b.row) : a = b := by
  cases a; cases b
  simp only [Ro.row, pplV, List.cons.injEq, V.sl.injEq, V.int.injEq, true_and, and_true] at h
  obtain ⟨h1, h2, h3, h4, h5, h6⟩ := h
  rw [mapRow_inj Pn.row_inj h1, h2, h3, h4, h5, h6]
structure Cl where
  a : Int
  b : Int
  craft : Int
  water : Bool
  deriving DecidableEq, Inhabited
def Cl.row (c : Cl) : List V := [.int .i64 c.a, .int .i64 c.b, .int .i64 c.craft, .bool c.water]
theorem Cl.row_inj (a b : Cl) (h : a.row = b.row) : a = b := by
  cases a; cases b; simp [Cl.row] at h; simp [h]

def Pn.ok (p : Pn) : Bool := decide (0 ≤ p.rat ∧ p.rat ≤ 255) && decide (0 ≤ p.rank ∧ p.rank ≤ 3) && decide (0 ≤ p.dive ∧ p.dive ≤ 2000)
/-- Whether a roster is valid. -/
def Ro.ok (r : Ro) : Bool := decide (r.ppl.length ≤ 12) && r.ppl.all Pn.ok && decide (1 ≤ r.lng ∧ r.lng ≤ 2000) && decide (0 ≤ r.rst ∧ r.rst ≤ 2000) && decide (1 ≤ r.win ∧ r.win ≤ 2000) && decide (1 ≤ r.rcn ∧ r.rcn ≤ 2000) && decide (1 ≤ r.tot ∧ r.tot ≤ r.win)
structure Ro.Fit (r : Ro) : Prop where
  n : r.ppl.length ≤ 12
  p : ∀ p ∈ r.ppl, p.ok = true
  lng : 1 ≤ r.lng ∧ r.lng ≤ 2000
  rst : 0 ≤ r.rst ∧ r.rst ≤ 2000
  win : 1 ≤ r.win ∧ r.win ≤ 2000
  rcn : 1 ≤ r.rcn ∧ r.rcn ≤ 2000
  tot : 1 ≤ r.tot ∧ r.tot ≤ r.win
theorem Ro.ok_iff {r : Ro} : r.ok = true ↔ r.Fit := by
  constructor
  · intro h
    simp [Ro.ok] at h
    obtain ⟨⟨⟨⟨⟨⟨h1, h2⟩, h3⟩, h4⟩, h5⟩, h6⟩, h7⟩ := h
    exact ⟨h1, h2, h3, h4, h5, h6, h7⟩
  · rintro ⟨h1, h2, h3, h4, h5, h6, h7⟩
    simp [Ro.ok]
    exact ⟨⟨⟨⟨⟨⟨h1, h2⟩, h3⟩, h4⟩, h5⟩, h6⟩, h7⟩

/-- Ticks of a duty or a call. -/
def strB (a b : Int) : Bool := decide (0 ≤ a ∧ a ≤ b - 1) && decide (b ≤ 2000)
theorem strB_iff {a b : Int} : strB a b = true ↔ 0 ≤ a ∧ a < b ∧ b ≤ 2000 := by
  simp [strB]; omega
/-- Duties of valid ticks. -/
def Val (l : List Du) : Prop := ∀ d ∈ l, 0 ≤ d.a ∧ d.a < d.b ∧ d.b ≤ 2000
def own (l : List Du) (n : Int) : List Du := l.filter fun d => decide (d.p = n)
theorem own_val {l : List Du} (h : Val l) (n : Int) : Val (own l n) := fun d hd => h d (List.mem_filter.1 hd).1
theorem own_len (l : List Du) (n : Int) : (own l n).length ≤ l.length := List.length_filter_le ..
def restB (r : Ro) (x y : Du) : Bool := if y.a < x.a then decide (y.b + r.rst ≤ x.a) else decide (x.b + r.rst ≤ y.a)
def recB (r : Ro) (o : List Du) (x : Du) : Bool := decide (x.a ≤ r.rcn) || o.any fun d => decide (0 ≤ x.a - d.b ∧ x.a - d.b ≤ r.rcn)
/-- The rules that a duty breaks beside others of the same person. -/
def brk (r : Ro) (o : List Du) (x : Du) : List Int :=
  (if (o.all fun d => restB r d x) = true then [] else [3]) ++ (if r.lng < x.b - x.a then [4] else []) ++ (if totB (o ++ [x]) r.win r.tot = true then [] else [5]) ++ (if recB r o x = true then [] else [6])
theorem brk_nil {r : Ro} {o : List Du} {x : Du} : brk r o x = [] ↔ (∀ d ∈ o, restB r d x = true) ∧ x.b - x.a ≤ r.lng ∧ totB (o ++ [x]) r.win r.tot = true ∧ recB r o x = true := by
  unfold brk
  by_cases h1 : (o.all fun d => restB r d x) = true
  · have h1' := List.all_eq_true.1 h1
    by_cases h2 : r.lng < x.b - x.a
    · simp [h2]; intro _ h; omega
    · by_cases h3 : totB (o ++ [x]) r.win r.tot = true
      · by_cases h4 : recB r o x = true
        · simp [h1, h2, h3, h4]; exact ⟨h1', by omega⟩
        · simp [h1, h2, h3, h4]
      · simp [h1, h2, h3]
  · have : ¬ ∀ d ∈ o, restB r d x = true := fun h => h1 (List.all_eq_true.2 h)
    simp [h1, this]

/-! the reference's -/
def rrest (r : Ro) (l : List Du) (d : Du) : Bool := l.all fun x => !(decide (x.p = d.p) && decide (d.a < x.b + r.rst) && decide (x.a < d.b + r.rst))
/-- The reference's count, from the first on. -/
def bsd (d : Du) (x y : Int) : List Du → Int → Int
  | [], n => n
  | z :: l, n => bsd d x y l (if z.p = d.p then n + (bus1 z x y - bus1 z (max x d.a) (min y d.b)) else n)
def rwin (r : Ro) (l : List Du) (d : Du) : Bool := (l ++ [d]).all fun z => !decide (z.p = d.p) || (decide (bsd d z.a (z.a + r.win) l (bus1 d z.a (z.a + r.win)) ≤ r.tot) && decide (bsd d (max 0 (z.b - r.win)) (max 0 (z.b - r.win) + r.win) l (bus1 d (max 0 (z.b - r.win)) (max 0 (z.b - r.win) + r.win)) ≤ r.tot))
def rrec (r : Ro) (l : List Du) (d : Du) : Bool := decide (d.a ≤ r.rcn) || l.any fun x => decide (x.p = d.p) && decide (x.b ≤ d.a) && decide (d.a - r.rcn ≤ x.b)
def rbrk (r : Ro) (l : List Du) (d : Du) : List Int :=
  (if rrest r l d = true then [] else [3]) ++ (if r.lng < d.b - d.a then [4] else []) ++ (if rwin r l d = true then [] else [5]) ++ (if rrec r l d = true then [] else [6])
theorem bsd_own (d : Du) (x y : Int) : ∀ (l : List Du) (n : Int), bsd d x y l n = n + (besd d x y (own l d.p) - bus1 d x y)
  | [], n => by simp [bsd, own, besd]
  | z :: l, n => by
    rw [bsd, bsd_own d x y l]
    by_cases h : z.p = d.p
    · rw [if_pos h, show own (z :: l) d.p = z :: own l d.p by simp [own, h], besd]; omega
    · rw [if_neg h, show own (z :: l) d.p = own l d.p by simp [own, h]]
theorem bsd_eq {d : Du} {x y : Int} {l : List Du} (h : Disj (own l d.p)) : bsd d x y l (bus1 d x y) = wk (own l d.p ++ [d]) x y := by
  rw [bsd_own, besd_eq d x y _ h]
  have : wk (d :: own l d.p) x y = wk (own l d.p ++ [d]) x y := wk_perm (by simpa using (List.perm_append_comm (l₁ := [d]) (l₂ := own l d.p))) x y
  omega
theorem own_snoc (l : List Du) (d : Du) : own (l ++ [d]) d.p = own l d.p ++ [d] := by simp [own, List.filter_append]
theorem all_own (l : List Du) (n : Int) (p : Du → Bool) : (l.all fun z => !decide (z.p = n) || p z) = (own l n).all p := by
  induction l with
  | nil => rfl
  | cons z l ih =>
    by_cases h : z.p = n
    · rw [show own (z :: l) n = z :: own l n by simp [own, h]]; simp [h, ih]
    · rw [show own (z :: l) n = own l n by simp [own, h]]; simp [h, ih]
theorem rwin_eq {r : Ro} (hr : r.Fit) {l : List Du} {d : Du} (h : Disj (own l d.p)) (hv : Val (own l d.p)) (hd : 0 ≤ d.a ∧ d.a < d.b ∧ d.b ≤ 2000) : rwin r l d = totB (own l d.p ++ [d]) r.win r.tot := by
  unfold rwin
  rw [all_own, own_snoc]
  simp only [bsd_eq h]
  rw [Bool.eq_iff_iff]
  rw [totB_iff (by have := hr.win; omega) (by have := hr.tot; omega)]
  constructor
  · intro h1 x
    refine wk_most (by have := hr.win; omega) (by have := hr.tot; omega) (fun z hz => ?_) x
    have := List.all_eq_true.1 h1 z hz
    simp at this; exact this.1
  · intro h1
    refine List.all_eq_true.2 fun z hz => ?_
    simp; exact ⟨h1 _, h1 _⟩
theorem own_mem {l : List Du} {n : Int} {x : Du} : x ∈ own l n ↔ x ∈ l ∧ x.p = n := by simp [own]
theorem rrest_eq {r : Ro} (hr : r.Fit) {l : List Du} {d : Du} (hv : Val (own l d.p)) (hd : 0 ≤ d.a ∧ d.a < d.b ∧ d.b ≤ 2000) : rrest r l d = (own l d.p).all fun x => restB r x d := by
  have hrr := hr.rst
  unfold rrest
  rw [Bool.eq_iff_iff, List.all_eq_true, List.all_eq_true]
  constructor
  · intro h x hx
    have h1 := h x (own_mem.1 hx).1
    have h2 := (own_mem.1 hx).2
    have h3 := hv x hx
    simp [h2] at h1
    unfold restB
    split
    · simp; omega
    · simp
      omega
  · intro h x hx
    by_cases h2 : x.p = d.p
    · have hx' := own_mem.2 ⟨hx, h2⟩
      have h1 := h x hx'
      have h3 := hv x hx'
      unfold restB at h1
      simp [h2]
      split at h1
      · simp at h1; omega
      · simp at h1; omega
    · simp [h2]
theorem rrec_eq {r : Ro} {l : List Du} {d : Du} : rrec r l d = recB r (own l d.p) d := by
  unfold rrec recB
  congr 1
  rw [Bool.eq_iff_iff, List.any_eq_true, List.any_eq_true]
  constructor
  · rintro ⟨x, hx, h⟩
    simp at h
    exact ⟨x, own_mem.2 ⟨hx, h.1.1⟩, by simp; omega⟩
  · rintro ⟨x, hx, h⟩
    have := own_mem.1 hx
    simp at h
    exact ⟨x, this.1, by simp [this.2]; omega⟩
/-- The reference's rules are those of the duties of one person. -/
theorem rbrk_eq {r : Ro} (hr : r.Fit) {l : List Du} {d : Du} (h : Disj (own l d.p)) (hv : Val (own l d.p)) (hd : 0 ≤ d.a ∧ d.a < d.b ∧ d.b ≤ 2000) : rbrk r l d = brk r (own l d.p) d := by
  unfold rbrk brk
  rw [rrest_eq hr hv hd, rwin_eq hr h hv hd, rrec_eq]

/-! right duties -/
def duAt (l : List Du) (i : Nat) : Du := l.getD i default
def duOk (r : Ro) (l : List Du) (i : Nat) : Bool :=
  decide (0 ≤ (duAt l i).p ∧ (duAt l i).p ≤ r.ppl.length - 1) && strB (duAt l i).a (duAt l i).b && (decide (i = 0) || decide ((duAt l (i - 1)).a ≤ (duAt l i).a)) && (brk r (own (l.take i) (duAt l i).p) (duAt l i)).isEmpty
theorem duOk_iff {r : Ro} {l : List Du} {i : Nat} : duOk r l i = true ↔ (0 ≤ (duAt l i).p ∧ (duAt l i).p ≤ r.ppl.length - 1) ∧ (0 ≤ (duAt l i).a ∧ (duAt l i).a < (duAt l i).b ∧ (duAt l i).b ≤ 2000) ∧ (i = 0 ∨ (duAt l (i - 1)).a ≤ (duAt l i).a) ∧ brk r (own (l.take i) (duAt l i).p) (duAt l i) = [] := by
  unfold duOk
  simp only [Bool.and_eq_true, strB_iff, Bool.or_eq_true, decide_eq_true_eq, List.isEmpty_iff, and_assoc]
def Rt (r : Ro) (l : List Du) (n : Nat) : Prop := ∀ i, i < n → duOk r l i = true
theorem take_snoc {α : Type} [Inhabited α] (l : List α) {n : Nat} (h : n < l.length) : l.take (n + 1) = l.take n ++ [l.getD n default] := by
  rw [List.take_add_one]; simp [List.getD, h]
theorem Rt.val {r : Ro} {l : List Du} : ∀ {n : Nat}, n ≤ l.length → Rt r l n → Val (l.take n)
  | 0, _, _ => fun d hd => by simp at hd
  | n + 1, hn, h => by
    rw [take_snoc l (by omega)]
    intro d hd
    rcases List.mem_append.1 hd with hd | hd
    · exact Rt.val (by omega) (fun i hi => h i (by omega)) d hd
    · have := List.mem_singleton.1 hd
      subst this
      exact (duOk_iff.1 (h n (by omega))).2.1
theorem rest_disj {r : Ro} (hr : 0 ≤ r.rst) {x y : Du} (h : restB r x y = true) (t : Int) : ¬ (x.on t = true ∧ y.on t = true) := by
  rintro ⟨h1, h2⟩
  simp [Du.on] at h1 h2
  unfold restB at h
  split at h <;> simp at h <;> omega
theorem Rt.disj {r : Ro} (hr : 0 ≤ r.rst) {l : List Du} (p : Int) : ∀ {n : Nat}, n ≤ l.length → Rt r l n → Disj (own (l.take n) p)
  | 0, _, _ => by simp [own, Disj]
  | n + 1, hn, h => by
    have ih := Rt.disj hr p (n := n) (by omega) (fun i hi => h i (by omega))
    rw [take_snoc l (by omega)]
    have hk := duOk_iff.1 (h n (by omega))
    change Disj (own (l.take n ++ [duAt l n]) p)
    by_cases hp : (duAt l n).p = p
    · have e : own (l.take n ++ [duAt l n]) p = own (l.take n) p ++ [duAt l n] := by simp [own, List.filter_append, hp]
      rw [e]
      refine List.pairwise_append.2 ⟨ih, List.pairwise_singleton .., fun x hx y hy => ?_⟩
      have := List.mem_singleton.1 hy
      subst this
      rw [hp] at hk
      exact rest_disj hr ((brk_nil.1 hk.2.2.2).1 x hx)
    · have e : own (l.take n ++ [duAt l n]) p = own (l.take n) p := by simp [own, List.filter_append, hp]
      rw [e]; exact ih
def badDu (r : Ro) (l : List Du) : Int := idxZ (List.range l.length) fun i => !duOk r l i
def chkE (r : Ro) (l : List Du) : Int × Int := if r.ok = true then (if 60 < l.length then (0, 2) else if 0 ≤ badDu r l then (badDu r l, 101) else (0, 0)) else (0, 100)
theorem badDu_none {r : Ro} {l : List Du} (h : badDu r l < 0) : Rt r l l.length := by
  intro i hi
  have hz := idxZ_any (List.range l.length) fun j => !duOk r l j
  have e : decide (0 ≤ idxZ (List.range l.length) fun j => !duOk r l j) = false := by
    have : idxZ (List.range l.length) (fun j => !duOk r l j) = badDu r l := rfl
    rw [this]; simp; omega
  rw [e] at hz
  have := List.any_eq_false.1 hz.symm i (by simpa using hi)
  simpa using this
theorem badDu_of {r : Ro} {l : List Du} (h : Rt r l l.length) : badDu r l = -1 := idxZ_none _ _ fun j hj => by
  simp at hj ⊢; exact h j hj
theorem chkE_zero {r : Ro} {l : List Du} : (chkE r l).2 = 0 ↔ r.Fit ∧ l.length ≤ 60 ∧ Rt r l l.length := by
  unfold chkE
  by_cases h1 : r.ok = true
  · rw [if_pos h1]
    by_cases h2 : 60 < l.length
    · rw [if_pos h2]; simp; omega
    · rw [if_neg h2]
      by_cases h3 : 0 ≤ badDu r l
      · rw [if_pos h3]; simp
        intro _ _ h; rw [badDu_of h] at h3; omega
      · rw [if_neg h3]; simp
        exact ⟨Ro.ok_iff.1 h1, by omega, badDu_none (by omega)⟩
  · rw [if_neg h1]; simp
    intro h; exact absurd (Ro.ok_iff.2 h) h1

/-! why somebody may not fly -/
def bit1 (x k : Int) : Bool := x.toNat.testBit k.toNat
def pnAt (r : Ro) (n : Int) : Pn := r.ppl.getD n.toNat default
def whyL (r : Ro) (l : List Du) (n : Int) (c : Cl) : List Int :=
  (if bit1 (pnAt r n).rat c.craft = true then [] else [1]) ++ (if c.water = true ∧ (pnAt r n).dive < c.b then [2] else []) ++ brk r (own l n) ⟨n, c.a, c.b⟩
def callB (c : Cl) : Bool := strB c.a c.b && decide (0 ≤ c.craft ∧ c.craft ≤ 7)
def perB (r : Ro) (n : Int) : Bool := decide (0 ≤ n ∧ n ≤ r.ppl.length - 1)
/-- The errors of a roster, duties and what is right beside them. -/
def chk2 (r : Ro) (l : List Du) (b : Bool) : Int := if (chkE r l).2 = 0 then (if b = true then 0 else 1) else (chkE r l).2
def mayB (r : Ro) (l : List Du) (c : Cl) (i k : Nat) : Bool := decide (i ≠ k) && (decide (2 ≤ (pnAt r i).rank) && (whyL r l i c).isEmpty) && (decide (1 ≤ (pnAt r k).rank) && (whyL r l k c).isEmpty)
def crwL (r : Ro) (l : List Du) (c : Cl) : List (Int × Int) :=
  (List.range r.ppl.length).flatMap fun i : Nat => ((List.range r.ppl.length).filter fun k : Nat => mayB r l c i k).map fun k : Nat => ((i : Int), (k : Int))
/-- The end of the longest duty that begins at a tick: from above. -/
def untL (r : Ro) (o : List Du) (n a : Int) : Nat → Int
  | 0 => 0
  | k + 1 => if (brk r o ⟨n, a, a + (k + 1 : Nat)⟩).isEmpty = true then a + (k + 1 : Nat) else untL r o n a k
end Go.Sx
end
section
/- Contracts whose values are read by their encoding. No conditions. -/
namespace Go.Sx
open Classical in
/-- Out of the values what they stand for. -/
noncomputable def decC {D : Type} [Inhabited D] (enc : D → List V) (l : List V) : D := if x : ∃ d, l = enc d then x.choose else default
theorem decC_eq {D : Type} [Inhabited D] {enc : D → List V} (inj : ∀ a b, enc a = enc b → a = b) (d : D) : decC enc (enc d) = d := by
  have x : ∃ d', enc d = enc d' := ⟨d, rfl⟩
  simp only [decC, dif_pos x]
  exact (inj _ _ x.choose_spec).symm
theorem decC_of {D : Type} [Inhabited D] {enc : D → List V} (inj : ∀ a b, enc a = enc b → a = b) (d : D) {l : List V} (h : l = enc d) : decC enc l = d := by rw [h, decC_eq inj]
noncomputable abbrev mkP {D : Type} [Inhabited D] (enc : D → List V) (pre : D → Prop) (res : D → V) : PSpec := { dom := D, enc := enc, dec := decC enc, pre := pre, res := res }
noncomputable def mkH {D : Type} (enc : D → List V) (HP : D → Hp → Prop) (pre : D → Prop) (res : D → V) (post : D → Hp → Hp) : HSpec :=
  { go := fun args h => open Classical in if hx : ∃ d, args = enc d ∧ HP d h then ⟨pre hx.choose, res hx.choose, post hx.choose h⟩ else bad h }
theorem mkH_at {D : Type} {enc : D → List V} {HP : D → Hp → Prop} {pre : D → Prop} {res : D → V} {post : D → Hp → Hp} (inj : ∀ d d' h, enc d = enc d' → HP d h → HP d' h → d = d') {d : D} {h : Hp} (hd : HP d h) :
    (mkH enc HP pre res post).go (enc d) h = ⟨pre d, res d, post d h⟩ := by
  have hx : ∃ d', enc d = enc d' ∧ HP d' h := ⟨d, rfl, hd⟩
  have e : hx.choose = d := (inj _ _ _ hx.choose_spec.1 hd hx.choose_spec.2).symm
  simp only [mkH]
  rw [dif_pos hx, e]
theorem mkH_inv {D : Type} {enc : D → List V} {HP : D → Hp → Prop} {pre : D → Prop} {res : D → V} {post : D → Hp → Hp} {args : List V} {h : Hp} (hc : ((mkH enc HP pre res post).go args h).c) :
    ∃ d, args = enc d ∧ HP d h ∧ pre d ∧ (mkH enc HP pre res post).go args h = ⟨pre d, res d, post d h⟩ := by
  simp only [mkH] at hc ⊢
  by_cases hx : ∃ d, args = enc d ∧ HP d h
  · rw [dif_pos hx] at hc
    exact ⟨hx.choose, hx.choose_spec.1, hx.choose_spec.2, hc, by rw [dif_pos hx]⟩
  · rw [dif_neg hx] at hc; exact hc.elim
end Go.Sx
end
section
/- Parts: the program's pages. No conditions. -/
set_option linter.unusedSimpArgs false
set_option linter.unusedSectionVars false
set_option maxRecDepth 100000
set_option maxHeartbeats 2000000
namespace Go.Sx
open Go.Proofs
attribute [local irreducible] HLe

@[simp] def spE (f : Sp) : List V := [.agg f.row]
theorem spE_inj (a b : Sp) (h : spE a = spE b) : a = b := Sp.row_inj _ _ (by simpa using h)
theorem spE_dec (f : Sp) : decC spE [.agg [.int .i64 f.lo, .int .i64 f.hi]] = f := decC_eq spE_inj f
/-! spans -/
noncomputable abbrev E71 : Env := { P := Tryz.prog, fn := tbl [], own := [], key := 7100, nt := 15 }
theorem b71 : PureBody E71 [] Tryz.f71 withinS := by
  refine pb ?_
  rintro ⟨n, a, b⟩ _
  simp -dsimp [Tryz.f71, E71, withinB]
  repeat' (first | omega | (simp -dsimp [E71, ri, cellp, ints, *]) | (refine Also.intro ?_ fun _ => ?_) | (refine Hold.intro fun _ => ?_) | (refine And.intro ?_ ?_))
theorem ok71 : FnOK Tryz.prog 71 (.pure withinS) := pure_fn (E := E71) rfl LOK.nil (ok := []) (fn := Tryz.f71) (by kernel_rfl) (by kernel_rfl) (by kernel_rfl) (by kernel_rfl) rfl (fun _ _ => by simp) b71
def spN (f : Sp) : Bool := !(withinB f.lo (-1000000) f.hi && decide (f.hi ≤ 1000000))
noncomputable abbrev spvS : PSpec := mkP spE (fun _ => True) fun f => .bool (!spN f)
noncomputable abbrev spnS : PSpec := mkP spE (fun _ => True) fun f => .bool (spN f)
noncomputable abbrev E98 : Env := { P := Tryz.prog, fn := tbl [(71, .pure withinS)], own := [], key := 9800, nt := 13 }
theorem b98 : PureBody E98 [] Tryz.f98 spvS := by
  refine pb ?_
  rintro f _
  simp -dsimp [Tryz.f98, E98, Sp.row, spN]
  repeat' (first | omega | (simp -dsimp [E98, ri, cellp, ints, Sp.row, spN]) | (refine Also.intro ?_ fun _ => ?_) | (refine Hold.intro fun _ => ?_) | (refine And.intro ?_ ?_))
theorem ok98 : FnOK Tryz.prog 98 (.pure spvS) := pure_fn (E := E98) rfl (.cons ok71 .nil) (ok := []) (fn := Tryz.f98) (by kernel_rfl) (by kernel_rfl) (by kernel_rfl) (by kernel_rfl) rfl (fun _ _ => by simp) b98
noncomputable abbrev E97 : Env := { P := Tryz.prog, fn := tbl [(98, .pure spvS)], own := [], key := 9700, nt := 6 }
theorem b97 : PureBody E97 [] Tryz.f97 spnS := by
  refine pb ?_
  rintro f _
  simp -dsimp [Tryz.f97, E97, Sp.row]
  repeat' (first | omega | (simp -dsimp [E97, ri, cellp, ints, Sp.row, spE_dec]) | (refine Also.intro ?_ fun _ => ?_) | (refine Hold.intro fun _ => ?_) | (refine And.intro ?_ ?_))
theorem ok97 : FnOK Tryz.prog 97 (.pure spnS) := pure_fn (E := E97) rfl (.cons ok98 .nil) (ok := []) (fn := Tryz.f97) (by kernel_rfl) (by kernel_rfl) (by kernel_rfl) (by kernel_rfl) rfl (fun _ _ => by simp) b97
@[simp] def spssE (d : List Sp) : List V := [.sl 2 (d.map Sp.row), .fn 97 []]
theorem spssE_inj (a b : List Sp) (h : spssE a = spssE b) : a = b := by
  simp only [spssE, List.cons.injEq, V.sl.injEq, true_and, and_true] at h
  exact mapRow_inj Sp.row_inj h
theorem spssE_dec (l : List Sp) : decC spssE [.sl 2 (l.map Sp.row), .fn 97 []] = l := decC_eq spssE_inj l
noncomputable abbrev spsixS : PSpec := mkP spssE (fun d => d.length ≤ 1000000) fun d => .int .i64 (idxZ d spN)
noncomputable abbrev spsanS : PSpec := mkP spssE (fun d => d.length ≤ 1000000) fun d => .bool (d.any spN)
noncomputable abbrev E102 : Env := { P := Tryz.prog, fn := tbl [(97, .pure spnS)], own := [], key := 10200, nt := 19 }
theorem b102 : PureBody E102 [] Tryz.f102 spsixS := by
  refine pb ?_
  rintro l hl
  have hl : l.length ≤ 1000000 := hl
  simp -dsimp [Tryz.f102, E102]
  refine awp_loop [9, 10, 5, 11, 12, 13, 14, 15, 16, 17, 4, 18, 8] (fun k : { k : Nat // k ≤ l.length ∧ ∀ j (h : j < l.length), j < k → spN l[j] = false } => [(8, (true, .int .i64 k.1))]) (fun _ => noH) (fun k => l.length - k.1) ⟨0, by omega, fun _ _ h => by omega⟩ ?_ (HLe.refl _) ?_
  · simp [okAll, okv]
  rintro ⟨k, hk, hall⟩
  by_cases hk1 : k < l.length
  · have hki : (k : Int) < l.length := by omega
    have wk : IntKind.wrap .i64 ((k : Int) + 1) = (k + 1 : Nat) := wrap_id (by omega) (by omega)
    cases hw : spN l[k]
    · simp -dsimp [hki]
      repeat' (first | omega | (simp -dsimp [E102, ri, cellp, ints, hki, hk1, hl, hw, wk, Sp.row, spE_dec]) | (refine Also.intro ?_ fun _ => ?_) | (refine Hold.intro fun _ => ?_) | (refine And.intro ?_ ?_))
      refine ⟨k + 1, tle_chain rfl ?_, HLe.refl _, ⟨by omega, fun j h hj => ?_⟩, by omega⟩
      · simp [okAll, okv]
      · by_cases hjk : j = k
        · subst hjk; exact hw
        · exact hall j h (by omega)
    · have hz := idxZ_at l spN hk1 hw hall
      simp -dsimp [hki]
      repeat' (first | omega | (simp -dsimp [E102, ri, cellp, ints, hki, hk1, hl, hw, wk, hz, Sp.row, spE_dec]) | (refine Also.intro ?_ fun _ => ?_) | (refine Hold.intro fun _ => ?_) | (refine And.intro ?_ ?_))
  · have hkn : ¬ (k : Int) < l.length := by omega
    have hz := idxZ_none l spN (fun j h => hall j h (by omega))
    simp -dsimp [hkn]
    repeat' (first | omega | (simp -dsimp [E102, ri, cellp, ints, hkn, hz]) | (refine Also.intro ?_ fun _ => ?_) | (refine Hold.intro fun _ => ?_) | (refine And.intro ?_ ?_))
theorem ok102 : FnOK Tryz.prog 102 (.pure spsixS) := pure_fn (E := E102) rfl (.cons ok97 .nil) (ok := []) (fn := Tryz.f102) (by kernel_rfl) (by kernel_rfl) (by kernel_rfl) (by kernel_rfl) rfl (fun _ _ => by simp) b102
noncomputable abbrev E75 : Env := { P := Tryz.prog, fn := tbl [(102, .pure spsixS)], own := [], key := 7500, nt := 9 }
theorem b75 : PureBody E75 [] Tryz.f75 spsanS := by
  refine pb ?_
  rintro l hl
  have hl : l.length ≤ 1000000 := hl
  have hz := idxZ_any l spN
  simp -dsimp [Tryz.f75, E75]
  repeat' (first | omega | (simp -dsimp [E75, ri, cellp, ints, hl, spssE_dec, hz]) | (refine Also.intro ?_ fun _ => ?_) | (refine Hold.intro fun _ => ?_) | (refine And.intro ?_ ?_))
theorem ok75 : FnOK Tryz.prog 75 (.pure spsanS) := pure_fn (E := E75) rfl (.cons ok102 .nil) (ok := []) (fn := Tryz.f75) (by kernel_rfl) (by kernel_rfl) (by kernel_rfl) (by kernel_rfl) rfl (fun _ _ => by simp) b75
@[simp] def slE (d : List Sp) : List V := [.sl 2 (d.map Sp.row)]
theorem slE_inj (a b : List Sp) (h : slE a = slE b) : a = b := by
  simp only [slE, List.cons.injEq, V.sl.injEq, true_and, and_true] at h
  exact mapRow_inj Sp.row_inj h
theorem slE_dec (l : List Sp) : decC slE [.sl 2 (l.map Sp.row)] = l := decC_eq slE_inj l
theorem slE_dec1 (f : Sp) : decC slE [.sl 2 [[.int .i64 f.lo, .int .i64 f.hi]]] = [f] := decC_eq slE_inj [f]
noncomputable abbrev spdS : PSpec := mkP slE (fun d => d.length ≤ 1000000) fun d => .int .i64 (if d.any spN = true then 10 else 0)
noncomputable abbrev E72 : Env := { P := Tryz.prog, fn := tbl [(75, .pure spsanS)], own := [], key := 7200, nt := 5 }
theorem b72 : PureBody E72 [] Tryz.f72 spdS := by
  refine pb ?_
  rintro l hl
  have hl : l.length ≤ 1000000 := hl
  generalize h1 : l.any spN = b
  cases b
  · simp -dsimp [Tryz.f72, E72]
    repeat' (first | omega | (simp -dsimp [E72, ri, cellp, ints, hl, h1, spssE_dec]) | (refine Also.intro ?_ fun _ => ?_) | (refine Hold.intro fun _ => ?_) | (refine And.intro ?_ ?_))
  · simp -dsimp [Tryz.f72, E72]
    repeat' (first | omega | (simp -dsimp [E72, ri, cellp, ints, hl, h1, spssE_dec]) | (refine Also.intro ?_ fun _ => ?_) | (refine Hold.intro fun _ => ?_) | (refine And.intro ?_ ?_))
theorem ok72 : FnOK Tryz.prog 72 (.pure spdS) := pure_fn (E := E72) rfl (.cons ok75 .nil) (ok := []) (fn := Tryz.f72) (by kernel_rfl) (by kernel_rfl) (by kernel_rfl) (by kernel_rfl) rfl (fun _ _ => by simp) b72
noncomputable abbrev bxkS : PSpec := mkP slE (fun d => d.length ≤ 1000000) fun d => .int .i64 (if withinB d.length 1 3 = true ∧ d.any spN = false then 0 else 10)

end Go.Sx
end
