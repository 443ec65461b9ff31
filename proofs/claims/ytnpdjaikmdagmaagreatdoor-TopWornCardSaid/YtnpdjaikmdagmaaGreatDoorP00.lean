/- A part of a proof; no conditions. -/
import Derived.WalkKit
set_option linter.unusedSimpArgs false
set_option linter.unusedVariables false
set_option linter.unusedSectionVars false
section
/- Abstract values and their relation to the model's values. No conditions. -/
namespace Go.Sx
open Go.RowKit

inductive V where
  | top
  | int (k : IntKind) (n : Int)
  | bool (b : Bool)
  | agg (cs : List V)
  | tup (vs : List V)
  | nil
  | nilp
  | nilf
  | sl (z : Nat) (els : List (List V))
  | ip (z : Nat) (els : List (List V)) (e j : Nat)
  | bsl (s i n : Nat)
  | bptr (s i n e j : Nat)
  | osl (s i n off len cap : Nat)
  | fn (f : Nat) (caps : List V)
  | yld (l : Nat)
  | emp
  | anyb
  deriving Inhabited

/-- The value of a temporary that a guard passed over. -/
abbrev und : Value := undef

inductive PV (w : World) (A : Nat → Prop) : V → Value → Prop
  | top (v : Value) : PV w A .top v
  | int (k : IntKind) (n : Int) : PV w A (.int k n) (.int k n)
  | bool (b : Bool) : PV w A (.bool b) (.bool b)
  | nil : PV w A .nil (.slice none 0 0)
  | nilp : PV w A .nilp (.pointer none)
  | nilf : PV w A .nilf .nilFunc
  | yld (l : Nat) : PV w A (.yld l) (.func (.yield l) #[] #[])
  | emp (a : Addr) : PV w A .emp (.slice (some a) 0 0)
  | anyb (b : Bool) : PV w A .anyb (.bool b)
  | agg (cs : List V) (us : Array Value) (hl : us.size = cs.length) (h : ∀ i c, cs[i]? = some c → PV w A c (us.getD i und)) : PV w A (.agg cs) (.agg us)
  | tup (cs : List V) (us : Array Value) (hl : us.size = cs.length) (h : ∀ i c, cs[i]? = some c → PV w A c (us.getD i und)) : PV w A (.tup cs) (.tuple us)
  | fn (f : Nat) (cs : List V) (us : Array Value) (hl : us.size = cs.length) (h : ∀ i c, cs[i]? = some c → PV w A c (us.getD i und)) : PV w A (.fn f cs) (.func (.func f) #[] us)
  | sl0 (z : Nat) (a : Option Addr) (cap : Nat) : PV w A (.sl z []) (.slice a 0 cap)
  | sl (z : Nat) (els : List (List V)) (b off cap : Nat) (u : Nat → Nat → Value) (hcap : els.length ≤ cap) (hb : b < w.heap.size) (hA : ¬ A b) (hz : ∀ row ∈ els, row.length = z)
      (hc : ∀ e j row c, els[e]? = some row → row[j]? = some c → w.cell? ⟨b, off + e * z + j, none⟩ = some (u e j) ∧ (u e j).oneCell' = true)
      (h : ∀ e j row c, els[e]? = some row → row[j]? = some c → PV w A c (u e j)) : PV w A (.sl z els) (.slice (some ⟨b, off, none⟩) els.length cap)
  | ip (z : Nat) (els : List (List V)) (e0 j0 : Nat) (b off : Nat) (u : Nat → Nat → Value) (hb : b < w.heap.size) (hA : ¬ A b) (hz : ∀ row ∈ els, row.length = z)
      (hc : ∀ e j row c, els[e]? = some row → row[j]? = some c → w.cell? ⟨b, off + e * z + j, none⟩ = some (u e j) ∧ (u e j).oneCell' = true)
      (h : ∀ e j row c, els[e]? = some row → row[j]? = some c → PV w A c (u e j)) : PV w A (.ip z els e0 j0) (.pointer (some ⟨b, off + e0 * z + j0, none⟩))

/-- What was neither mutable nor is now new stays as it was, and stays immutable. -/
def Later (w : World) (A : Nat → Prop) (w' : World) (A' : Nat → Prop) : Prop :=
  w.heap.size ≤ w'.heap.size ∧ ∀ b, b < w.heap.size → ¬ A b → w'.heap[b]? = w.heap[b]? ∧ ¬ A' b

theorem Later.refl (w : World) (A : Nat → Prop) : Later w A w A := ⟨Nat.le_refl _, fun _ _ h => ⟨rfl, h⟩⟩

theorem Later.trans {w w' w'' : World} {A A' A'' : Nat → Prop} (h : Later w A w' A') (k : Later w' A' w'' A'') : Later w A w'' A'' :=
  ⟨Nat.le_trans h.1 k.1, fun b hb hA =>
    have h1 := h.2 b hb hA
    have h2 := k.2 b (Nat.lt_of_lt_of_le hb h.1) h1.2
    ⟨h2.1.trans h1.1, h2.2⟩⟩

theorem PV.mono {w w' : World} {A A' : Nat → Prop} (hL : Later w A w' A') {x : V} {v : Value} (h : PV w A x v) : PV w' A' x v := by
  induction h with
  | top v => exact .top v
  | int k n => exact .int k n
  | bool b => exact .bool b
  | nil => exact .nil
  | nilp => exact .nilp
  | nilf => exact .nilf
  | yld l => exact .yld l
  | emp a => exact .emp a
  | anyb b => exact .anyb b
  | agg cs us hl _ ih => exact .agg cs us hl ih
  | tup cs us hl _ ih => exact .tup cs us hl ih
  | fn f cs us hl _ ih => exact .fn f cs us hl ih
  | sl0 z a cap => exact .sl0 z a cap
  | sl z els b off cap u hcap hb hA hz hc _ ih =>
    have h1 := hL.2 b hb hA
    refine .sl z els b off cap u hcap (Nat.lt_of_lt_of_le hb hL.1) h1.2 hz (fun e j row c he hj => ?_) ih
    rw [World.cell?_of_block (w := w) h1.1]
    exact hc e j row c he hj
  | ip z els e0 j0 b off u hb hA hz hc _ ih =>
    have h1 := hL.2 b hb hA
    refine .ip z els e0 j0 b off u (Nat.lt_of_lt_of_le hb hL.1) h1.2 hz (fun e j row c he hj => ?_) ih
    rw [World.cell?_of_block (w := w) h1.1]
    exact hc e j row c he hj

/-- Where it is told whether a round has said 'no more': no block's site. -/
abbrev YS : Nat := 999999999

/-- The header of an owned block. -/
structure Hd where
  b : Nat
  z : Nat
  len : Nat
  v : Value
  o : Nat := 0

/-- The capacity in a header. -/
def Hd.cap (d : Hd) : Nat := match d.v with | .slice _ _ c => c | _ => 0

structure Refs where
  D : Nat → Nat → Hd
  N : Nat → Nat

def Xle (X X' : Refs) : Prop := ∀ s i, i < X.N s → i < X'.N s ∧ (X'.D s i = X.D s i ∨ (X.D s i).len < (X'.D s i).len)

theorem Xle.refl (X : Refs) : Xle X X := fun _ _ h => ⟨h, .inl rfl⟩
theorem Xle.trans {X Y Z : Refs} (h : Xle X Y) (k : Xle Y Z) : Xle X Z := fun s i hi => by
  obtain ⟨h1, h2⟩ := h s i hi
  obtain ⟨k1, k2⟩ := k s i h1
  refine ⟨k1, ?_⟩
  rcases h2 with h2 | h2 <;> rcases k2 with k2 | k2
  · exact .inl (k2.trans h2)
  · exact .inr (by rw [← h2]; exact k2)
  · exact .inr (by rw [k2]; exact h2)
  · exact .inr (Nat.lt_trans h2 k2)

inductive RV (w : World) (A : Nat → Prop) (X : Refs) : V → Value → Prop
  | pure {x : V} {v : Value} (h : PV w A x v) : RV w A X x v
  | agg (cs : List V) (us : Array Value) (hl : us.size = cs.length) (h : ∀ i c, cs[i]? = some c → RV w A X c (us.getD i und)) : RV w A X (.agg cs) (.agg us)
  | tup (cs : List V) (us : Array Value) (hl : us.size = cs.length) (h : ∀ i c, cs[i]? = some c → RV w A X c (us.getD i und)) : RV w A X (.tup cs) (.tuple us)
  | fn (f : Nat) (cs : List V) (us : Array Value) (hl : us.size = cs.length) (h : ∀ i c, cs[i]? = some c → RV w A X c (us.getD i und)) : RV w A X (.fn f cs) (.func (.func f) #[] us)
  | bsl (s i n : Nat) (a : Option Addr) (c : Nat) (hN : i < X.N s) (hn : n ≤ (X.D s i).len) (hv : n = (X.D s i).len → .slice a n c = (X.D s i).v) : RV w A X (.bsl s i n) (.slice a n c)
  | bptr (s i n e j : Nat) (a : Addr) (hN : i < X.N s) (hn : n ≤ (X.D s i).len) (hv : n = (X.D s i).len → a = ⟨(X.D s i).b, (X.D s i).o + e * (X.D s i).z + j, none⟩) : RV w A X (.bptr s i n e j) (.pointer (some a))
  | osl (s i n off len cap : Nat) (a : Addr) (c : Nat) (hcc : cap ≤ c) (hN : i < X.N s) (hn : n ≤ (X.D s i).len) (hv : n = (X.D s i).len → a = ⟨(X.D s i).b, (X.D s i).o + off * (X.D s i).z, none⟩ ∧ off + c ≤ (X.D s i).cap) : RV w A X (.osl s i n off len cap) (.slice (some a) len c)

theorem RV.mono {w w' : World} {A A' : Nat → Prop} {X X' : Refs} (hL : Later w A w' A') (hX : Xle X X') {x : V} {v : Value} (h : RV w A X x v) : RV w' A' X' x v := by
  induction h with
  | pure h => exact .pure (h.mono hL)
  | agg cs us hl _ ih => exact .agg cs us hl ih
  | tup cs us hl _ ih => exact .tup cs us hl ih
  | fn f cs us hl _ ih => exact .fn f cs us hl ih
  | bsl s i n a c hN hn hv =>
    obtain ⟨h1, h2⟩ := hX s i hN
    rcases h2 with h2 | h2
    · exact .bsl s i n a c h1 (by rw [h2]; exact hn) (by rw [h2]; exact hv)
    · exact .bsl s i n a c h1 (by omega) (fun e => by omega)
  | bptr s i n e j a hN hn hv =>
    obtain ⟨h1, h2⟩ := hX s i hN
    rcases h2 with h2 | h2
    · exact .bptr s i n e j a h1 (by rw [h2]; exact hn) (by rw [h2]; exact hv)
    · exact .bptr s i n e j a h1 (by omega) (fun e => by omega)
  | osl s i n off len cap a c hcc hN hn hv =>
    obtain ⟨h1, h2⟩ := hX s i hN
    rcases h2 with h2 | h2
    · exact .osl s i n off len cap a c hcc h1 (by rw [h2]; exact hn) (by rw [h2]; exact hv)
    · exact .osl s i n off len cap a c hcc h1 (by omega) (fun e => by omega)

structure Blk where
  z : Nat
  els : List (List V)
  ty : TypeId
  fz : Bool := false
  cl : Bool := true

structure Site where
  base : Nat
  blks : List Blk
  fl : Bool := false

abbrev Hp := Nat → Site

def hget (h : Hp) (s i : Nat) : Option Blk := if i < (h s).base then none else (h s).blks[i - (h s).base]?

def hset (h : Hp) (s i : Nat) (B : Blk) (s' : Nat) : Site := if s' = s then { h s with blks := (h s).blks.set (i - (h s).base) B } else h s'

def hnext (h : Hp) (s : Nat) : Nat := (h s).base + (h s).blks.length

def hpush (h : Hp) (s : Nat) (B : Blk) (s' : Nat) : Site := if s' = s then { h s with blks := (h s).blks ++ [B] } else h s'

theorem hget_push_new (h : Hp) (s : Nat) (B : Blk) : hget (hpush h s B) s (hnext h s) = some B := by
  simp [hget, hpush, hnext]

theorem hget_push_old (h : Hp) (s s' i : Nat) (B : Blk) (hne : s' = s → i ≠ hnext h s) : hget (hpush h s B) s' i = hget h s' i := by
  unfold hget hpush
  by_cases hs : s' = s
  · subst hs
    simp only [if_true]
    by_cases hb : i < (h s').base
    · simp [hb]
    · have h2 := hne rfl
      simp only [hb, if_false]
      rw [List.getElem?_append]
      split
      · rfl
      · rename_i h3
        have : (h s').blks.length < i - (h s').base := by simp only [hnext] at h2; omega
        rw [List.getElem?_eq_none (by simp; omega), List.getElem?_eq_none (by omega)]
  · simp [hs]

theorem hget_lt {h : Hp} {s i : Nat} {B : Blk} (hg : hget h s i = some B) : i < hnext h s := by
  unfold hget at hg
  split at hg
  · simp at hg
  · have := (List.getElem?_eq_some_iff.1 hg).1
    unfold hnext; omega

theorem hget_set_same {h : Hp} {s i : Nat} {B B' : Blk} (hg : hget h s i = some B) : hget (hset h s i B') s i = some B' := by
  unfold hget at hg
  split at hg
  · simp at hg
  · rename_i hb
    have := (List.getElem?_eq_some_iff.1 hg).1
    simp [hget, hset, hb, this]

theorem hget_set_other (h : Hp) {s i s' i' : Nat} (B' : Blk) (hne : ¬ (s' = s ∧ i' = i)) (hi : (h s).base ≤ i) : hget (hset h s i B') s' i' = hget h s' i' := by
  unfold hget hset
  by_cases hs : s' = s
  · subst hs
    simp only [if_true]
    by_cases hb : i' < (h s').base
    · simp [hb]
    · have : i' ≠ i := fun e => hne ⟨rfl, e⟩
      simp only [hb, if_false]
      rw [List.getElem?_set_ne (by omega)]
  · simp [hs]

theorem hget_base {h : Hp} {s i : Nat} {B : Blk} (hg : hget h s i = some B) : (h s).base ≤ i := by
  unfold hget at hg
  split at hg
  · simp at hg
  · omega

theorem hnext_set (h : Hp) (s i s' : Nat) (B : Blk) : hnext (hset h s i B) s' = hnext h s' := by
  unfold hnext hset
  by_cases hs : s' = s
  · subst hs; simp
  · simp [hs]

theorem hnext_push (h : Hp) (s s' : Nat) (B : Blk) : hnext (hpush h s B) s' = hnext h s' + if s' = s then 1 else 0 := by
  unfold hnext hpush
  by_cases hs : s' = s
  · subst hs; simp; omega
  · simp [hs]

/-- The blocks of a site up to i are not told of any more. -/
def hcut (h : Hp) (s i s' : Nat) : Site := if s' = s then { h s with base := max (h s).base (i + 1), blks := (h s).blks.drop (i + 1 - (h s).base) } else h s'
theorem hget_cut (h : Hp) (s i s' i' : Nat) : hget (hcut h s i) s' i' = if s' = s ∧ i' ≤ i then none else hget h s' i' := by
  unfold hget hcut
  by_cases hs : s' = s
  · subst hs
    simp only [if_true, true_and]
    by_cases hi : i' ≤ i
    · rw [if_pos (by omega), if_pos hi]
    · rw [if_neg hi]
      by_cases hb : i' < (h s').base
      · rw [if_pos (by omega), if_pos hb]
      · rw [if_neg (by omega), if_neg hb, List.getElem?_drop]
        congr 1; omega
  · simp [hs]
theorem hnext_cut {h : Hp} {s i : Nat} (hi : i < hnext h s) (s' : Nat) : hnext (hcut h s i) s' = hnext h s' := by
  unfold hnext at hi
  unfold hnext hcut
  by_cases hs : s' = s
  · subst hs; simp only [if_true, List.length_drop]; omega
  · simp [hs]

structure Fr where
  w0 : World
  A0 : Nat → Prop
  X0 : Refs
  M : Nat → Prop

/-- An owned block and its memory. -/
structure BOK (F : Fr) (w : World) (A : Nat → Prop) (X : Refs) (s i : Nat) (B : Blk) : Prop where
  hN : i < X.N s
  hz : (X.D s i).z = B.z
  hlen : (X.D s i).len = B.els.length
  rows : ∀ row ∈ B.els, row.length = B.z
  mem : ((X.D s i).v = .slice none 0 0 ∧ B.els = []) ∨
    ∃ arr cap, w.heap[(X.D s i).b]? = some (.cells arr B.ty (0, 0)) ∧ (X.D s i).v = .slice (some ⟨(X.D s i).b, (X.D s i).o, none⟩) B.els.length cap ∧ B.els.length ≤ cap ∧ cap ≤ maxLen ∧
      (X.D s i).o + cap * B.z ≤ arr.size ∧
      (∀ e j row c, B.els[e]? = some row → row[j]? = some c → ∃ u, arr[(X.D s i).o + e * B.z + j]? = some u ∧ u.oneCell' = true ∧ RV w A X c u ∧ (B.cl = true → PV w A c u)) ∧
      (B.fz = true → ¬ A (X.D s i).b) ∧ (B.fz = false → A (X.D s i).b ∧ (F.M (X.D s i).b ∨ F.w0.heap.size ≤ (X.D s i).b))

def Hd.real (d : Hd) : Prop := d.v ≠ .slice none 0 0

/-- What the package's variables hold, as immutable values: their number, a pointer to what it holds. -/
class Gls where
  G : Nat → Option V

variable [Gls]
/-- They hold it. -/
def GOK (w : World) (A : Nat → Prop) : Prop := ∀ g v, Gls.G g = some v → PV w A v (.pointer (some ⟨g, 0, none⟩))
theorem GOK.mono {w w' : World} {A A' : Nat → Prop} (h : GOK w A) (hL : Later w A w' A') : GOK w' A' := fun g v hg => (h g v hg).mono hL

structure Inv (F : Fr) (w : World) (A : Nat → Prop) (X : Refs) (h : Hp) : Prop where
  gl : GOK w A
  abd : ∀ b, A b → b < w.heap.size
  aold : ∀ b, b < F.w0.heap.size → A b → F.A0 b
  akeep : ∀ b, b < F.w0.heap.size → F.A0 b → ¬ F.M b → A b
  os : w.os = F.w0.os
  tape : w.tape = F.w0.tape
  output : w.output = F.w0.output
  size : F.w0.heap.size ≤ w.heap.size
  same : ∀ b, b < F.w0.heap.size → ¬ F.M b → w.heap[b]? = F.w0.heap[b]?
  xle : Xle F.X0 X
  nb : ∀ s, X.N s ≤ hnext h s
  blk : ∀ s i B, hget h s i = some B → BOK F w A X s i B
  inj : ∀ s i B s' i' B', hget h s i = some B → hget h s' i' = some B' → (X.D s i).real → (X.D s' i').real → (X.D s i).b = (X.D s' i').b → s = s' ∧ i = i'

end Go.Sx
end
section
/- The abstract step: what an operation does to abstract values, with its side conditions. No conditions. -/
namespace Go.Sx
open Go.RowKit
variable [Gls]

def ofVal1 : Value → V
  | .int k n => .int k n
  | .bool b => .bool b
  | .slice none 0 0 => .nil
  | .pointer none => .nilp
  | .nilFunc => .nilf
  | _ => .top

def ofVal : Value → V
  | .agg cs => .agg (cs.toList.map ofVal1)
  | v => ofVal1 v

/-- The cells of a type's zero value. -/
def zc (P : Program) (T : TypeId) : List V :=
  match (P.info? T).bind (·.zero) with
  | some z => z.cells.toList.map ofVal1
  | none => []

def isAg (P : Program) (T : TypeId) : Bool :=
  match P.underlying T with
  | some (.struct _) | some (.array _ _) => true
  | _ => false

def tyOk (P : Program) (T : TypeId) : Bool := (P.underlying T).isSome

def slEl (P : Program) (T : TypeId) : Option TypeId :=
  match P.underlying T with
  | some (.slice e) => some e
  | _ => none

def arEl (P : Program) (T : TypeId) : Option (Nat × TypeId) :=
  match P.underlying T with
  | some (.array n e) => some (n, e)
  | _ => none

def fld (P : Program) (S : TypeId) (f : Nat) : Option (Nat × TypeId) :=
  match P.underlying S with
  | some (.struct fs) => (fs[f]?).map fun x => (x.offset, x.type)
  | _ => none

def V.cells : V → List V
  | .agg cs => cs
  | v => [v]

/-- Holds of a value that one cell can hold. -/
def V.cell1 : V → Bool
  | .top | .agg _ | .tup _ => false
  | _ => true

def V.refFree1 : V → Bool
  | .bsl .. | .bptr .. | .osl .. => false
  | .agg _ | .tup _ | .fn _ (_ :: _) => false
  | _ => true

def V.refFree : V → Bool
  | .agg cs => cs.all V.refFree1
  | .tup cs => cs.all V.refFree1
  | .fn _ cs => cs.all V.refFree1
  | v => v.refFree1

def V.scal1 : V → Bool
  | .int .. | .bool _ | .nilp | .nilf | .nil => true
  | _ => false

def V.scal : V → Bool
  | .tup cs => cs.all V.scal1
  | .agg cs => cs.all V.scal1
  | v => v.scal1

/-- A value that holds no others, but for what a slice or a pointer holds. -/
def V.leaf : V → Bool
  | .agg _ | .tup _ => false
  | .fn _ (_ :: _) => false
  | _ => true

/-- An argument's shape. -/
def V.argOk (x : V) : Bool := match x with | .agg cs => cs.all V.leaf | .fn _ cs => cs.all V.leaf | .tup _ => false | _ => true

structure PSpec where
  dom : Type
  enc : dom → List V
  dec : List V → dom
  pre : dom → Prop
  res : dom → V

structure Out where
  c : Prop
  v : V
  h : Hp

structure HSpec where
  go : List V → Hp → Out

inductive Spec where
  | pure (S : PSpec)
  | heap (S : HSpec)
  | iter (S : Nat → HSpec → HSpec)

structure Env where
  P : Program
  fn : Nat → Option Spec
  own : List Nat
  key : Nat
  nt : Nat
  frz : List (Nat × List Nat) := []
  yl : Option (Nat × HSpec) := none
  cfz : List (Nat × List Nat) := []

structure St where
  t : Nat → Bool × V
  h : Hp

def bad (h : Hp) : Out := ⟨False, .top, h⟩

def sub0 : V → V → Prop
  | _, .top => True
  | .nil, .sl _ [] => True
  | .emp, .sl _ [] => True
  | x, y => x = y

def subs0 : List V → List V → Prop
  | [], [] => True
  | x :: xs, y :: ys => sub0 x y ∧ subs0 xs ys
  | _, _ => False

def sub1 : V → V → Prop
  | .agg xs, .agg ys => subs0 xs ys
  | x, y => sub0 x y

def subs1 : List V → List V → Prop
  | [], [] => True
  | x :: xs, y :: ys => sub1 x y ∧ subs1 xs ys
  | _, _ => False

def sub : V → V → Prop
  | .tup xs, .tup ys => subs1 xs ys
  | x, y => sub1 x y

def lendCs (g : V → Prop × V) : List V → Prop × List V
  | [] => (True, [])
  | x :: xs => ((x.leaf = true ∧ (g x).1) ∧ (lendCs g xs).1, (g x).2 :: (lendCs g xs).2)

def lendRs (g : V → Prop × V) : List (List V) → Prop × List (List V)
  | [] => (True, [])
  | x :: xs => ((lendCs g x).1 ∧ (lendRs g xs).1, (lendCs g x).2 :: (lendRs g xs).2)

/-- A block's rows, lent. -/
def lendB (g : V → Prop × V) (B : Blk) : Prop × List (List V) :=
  match B.cl with
  | true => (True, B.els)
  | false => lendRs g B.els

/-- An owned value as an immutable one, for a while. -/
def lendN : Nat → Hp → V → Prop × V
  | 0, h, .bsl s i n => match hget h s i with
    | some B => (n = B.els.length ∧ B.cl = true, .sl B.z B.els)
    | none => (False, .top)
  | 0, h, .osl s i n off len cap => match hget h s i with
    | some B => (n = B.els.length ∧ off + len ≤ B.els.length ∧ B.cl = true ∧ len ≤ cap, .sl B.z ((B.els.drop off).take len))
    | none => (False, .top)
  | 0, h, .bptr s i n e j => match hget h s i with
    | some B => (n = B.els.length ∧ B.cl = true ∧ B.els ≠ [], .ip B.z B.els e j)
    | none => (False, .top)
  | f + 1, h, .bsl s i n => match hget h s i with
    | some B => (n = B.els.length ∧ (lendB (lendN f h) B).1, .sl B.z (lendB (lendN f h) B).2)
    | none => (False, .top)
  | f + 1, h, .osl s i n off len cap => match hget h s i with
    | some B => (n = B.els.length ∧ off + len ≤ B.els.length ∧ (lendB (lendN f h) B).1 ∧ len ≤ cap, .sl B.z (((lendB (lendN f h) B).2.drop off).take len))
    | none => (False, .top)
  | f + 1, h, .bptr s i n e j => match hget h s i with
    | some B => (n = B.els.length ∧ (lendB (lendN f h) B).1 ∧ B.els ≠ [], .ip B.z (lendB (lendN f h) B).2 e j)
    | none => (False, .top)
  | _, _, v => (True, v)

def lend1 (h : Hp) (v : V) : Prop × V := lendN 3 h v

def lends1 (h : Hp) : List V → Prop × List V
  | [] => (True, [])
  | x :: xs => ((lend1 h x).1 ∧ (lends1 h xs).1, (lend1 h x).2 :: (lends1 h xs).2)

def lend (h : Hp) : V → Prop × V
  | .agg cs => ((lends1 h cs).1, .agg (lends1 h cs).2)
  | .fn f cs => ((lends1 h cs).1, .fn f (lends1 h cs).2)
  | v => lend1 h v

def lends (h : Hp) : List V → Prop × List V
  | [] => (True, [])
  | x :: xs => ((lend h x).1 ∧ (lends h xs).1, (lend h x).2 :: (lends h xs).2)

def fzCs (g : V → Prop) : List V → Prop
  | [] => True
  | x :: xs => g x ∧ fzCs g xs
def fzRs (g : V → Prop) : List (List V) → Prop
  | [] => True
  | x :: xs => fzCs g x ∧ fzRs g xs
def V.at? : V → Option (Nat × Nat)
  | .bsl s i _ | .osl s i _ _ _ _ | .bptr s i _ _ _ => some (s, i)
  | _ => none
/-- What it refers to is not written any more. -/
def fzN : Nat → Hp → V → Prop
  | 0, h, x => match x.at? with
    | some (s, i) => match hget h s i with
      | some B => B.fz = true
      | none => False
    | none => True
  | f + 1, h, x => match x.at? with
    | some (s, i) => match hget h s i with
      | some B => B.fz = true ∧ (B.cl = true ∨ fzRs (fzN f h) B.els)
      | none => False
    | none => True
def fzA (h : Hp) : V → Prop
  | .agg cs => fzCs (fzN 3 h) cs
  | .fn _ cs => fzCs (fzN 3 h) cs
  | v => fzN 3 h v

def lkf : List (Nat × List Nat) → Nat → List Nat
  | [], _ => []
  | (a, p) :: r, id => if id = a then p else lkf r id
/-- All blocks of a site are not written any more. -/
def frzH (h : Hp) (s s' : Nat) : Site := if s' = s then { h s with blks := (h s).blks.map fun B => { B with fz := true } } else h s'
def frzHs : List Nat → Hp → Hp
  | [], h => h
  | s :: r, h => frzHs r (frzH h s)

def callF (E : Env) (f : Nat) (args : List V) (h : Hp) : Out :=
  match E.fn f with
  | some (.pure S) =>
    let l := lends h args
    let d := S.dec l.2
    ⟨args.all V.argOk = true ∧ l.1 ∧ subs1 l.2 (S.enc d) ∧ S.pre d ∧ (args.all V.refFree = true ∨ (S.res d).scal = true ∨ fzCs (fzA h) args), S.res d, h⟩
  | some (.heap S) => S.go args h
  | some (.iter S) => match E.yl with
    | some (l, Y) => ⟨((h YS).blks = [] ∧ (h YS).fl = false) ∧ ((S l Y).go args h).c, ((S l Y).go args h).v, ((S l Y).go args h).h⟩
    | none => bad h
  | none => bad h

def bitw (op : BinOp) (k : IntKind) (x y : Int) : Int :=
  let a := BitVec.ofInt k.bits x
  let b := BitVec.ofInt k.bits y
  match op with
  | .and => k.wrap (a &&& b).toNat
  | .or => k.wrap (a ||| b).toNat
  | .xor => k.wrap (a ^^^ b).toNat
  | _ => k.wrap (a &&& ~~~b).toNat

def isPtr (P : Program) (T : TypeId) : Bool := match P.underlying T with | some (.pointer _) => true | _ => false
def isFn (P : Program) (T : TypeId) : Bool := match P.underlying T with | some (.func ..) => true | _ => false
def isBool (P : Program) (T : TypeId) : Bool := match P.underlying T with | some .bool => true | _ => false

def intK (P : Program) (T : TypeId) : Option IntKind := match P.underlying T with | some (.int k) => some k | _ => none

/-- The cells' types of a flat struct or array. -/
def leafTs (P : Program) (T : TypeId) : List TypeId :=
  match P.underlying T with
  | some (.array n e) => List.replicate n e
  | some (.struct fs) => fs.toList.map (·.type)
  | _ => []

def scalT (P : Program) (T : TypeId) : Bool := match P.underlying T with | some (.int _) | some .bool => true | _ => false

/-- A struct or an array of plain cells, that can be compared. -/
def flatEq (P : Program) (T : TypeId) : Bool :=
  match P.underlying T with
  | some (.array _ e) => scalT P e && P.cellsOf e == 1 && (P.info? e).isSome && !P.eqGuardType P.depth T
  | some (.struct fs) => fs.toList.all (fun f => f.name != "_" && scalT P f.type) && !P.stoodInHeld T && !P.eqGuardType P.depth T && fs.toList.map (·.offset) == List.range fs.size
  | _ => false

def eqTs (P : Program) : List TypeId → List V → List V → Prop × Bool
  | [], [], [] => (True, true)
  | t :: ts, .int k m :: a, .int k' n :: b => (((intK P t).isSome = true ∧ k = k') ∧ (eqTs P ts a b).1, (m == n) && (eqTs P ts a b).2)
  | t :: ts, .bool p :: a, .bool q :: b => (isBool P t = true ∧ (eqTs P ts a b).1, (p == q) && (eqTs P ts a b).2)
  | _, _, _ => (False, false)

def eqV (P : Program) (T : TypeId) (a b : V) : Prop × Bool :=
  match a, b with
  | .agg xs, .agg ys => (flatEq P T = true ∧ (eqTs P (leafTs P T) xs ys).1, (eqTs P (leafTs P T) xs ys).2)
  | .bool p, .bool q => (isBool P T = true, p == q)
  | .nilp, .nilp => (isPtr P T = true, true)
  | .nilp, .bptr .. | .bptr .., .nilp | .nilp, .ip .. | .ip .., .nilp => (isPtr P T = true, false)
  | .nil, .nil => ((slEl P T).isSome = true, true)
  | .sl _ els, .nil | .nil, .sl _ els => ((slEl P T).isSome = true ∧ els ≠ [], false)
  | .osl .., .nil | .nil, .osl .. => ((slEl P T).isSome = true, false)
  | .emp, .nil | .nil, .emp => ((slEl P T).isSome = true, false)
  | .nilf, .nilf => (isFn P T = true, true)
  | .nilf, .fn .. | .fn .., .nilf => (isFn P T = true, false)
  | _, _ => (False, false)

def shlV (k : IntKind) (m n : Int) : Int := k.wrap (m * 2 ^ (min n.toNat k.bits))
def shrV (k : IntKind) (m n : Int) : Int := m.fdiv (2 ^ (min n.toNat k.bits))

/-- Held against nil: one cannot tell. -/
def unkE (a b : V) : Bool :=
  match a, b with
  | .sl _ els, .nil | .nil, .sl _ els => els.isEmpty
  | _, _ => false

def binV (P : Program) (op : BinOp) (T : TypeId) (a b : V) : Prop × V :=
  match a, b with
  | .int k m, .int k' n =>
    match op with
    | .add => (k = k', .int k (k.wrap (m + n)))
    | .sub => (k = k', .int k (k.wrap (m - n)))
    | .mul => (k = k', .int k (k.wrap (m * n)))
    | .quo => (k = k' ∧ n ≠ 0, .int k (k.wrap (m.tdiv n)))
    | .rem => (k = k' ∧ n ≠ 0, .int k (m.tmod n))
    | .shl => (0 ≤ n, .int k (shlV k m n))
    | .shr => (0 ≤ n, .int k (shrV k m n))
    | .and => (k = k', .int k (bitw .and k m n))
    | .or => (k = k', .int k (bitw .or k m n))
    | .xor => (k = k', .int k (bitw .xor k m n))
    | .andNot => (k = k', .int k (bitw .andNot k m n))
    | .eql => (k = k', .bool (m == n))
    | .neq => (k = k', .bool (m != n))
    | .lss => (k = k', .bool (decide (m < n)))
    | .leq => (k = k', .bool (decide (m ≤ n)))
    | .gtr => (k = k', .bool (decide (m > n)))
    | .geq => (k = k', .bool (decide (m ≥ n)))
  | _, _ =>
    match op with
    | .eql => if unkE a b = true then ((slEl P T).isSome = true, .anyb) else ((eqV P T a b).1, .bool (eqV P T a b).2)
    | .neq => if unkE a b = true then ((slEl P T).isSome = true, .anyb) else ((eqV P T a b).1, .bool (!(eqV P T a b).2))
    | _ => (False, .top)

def vite (b : Bool) (x y : V) : V :=
  match x, y with
  | .bool p, .bool q => .bool (if b then p else q)
  | .int k m, .int k' n => if k = k' then .int k (if b then m else n) else (if b then .int k m else .int k' n)
  | x, y => if b then x else y

def splice (row : List V) (j : Nat) (cs : List V) : List V := row.take j ++ cs ++ row.drop (j + cs.length)

def loadR (P : Program) (T : TypeId) (row : List V) (j : Nat) : V :=
  if isAg P T then .agg ((row.drop j).take (P.cellsOf T)) else row.getD j .top

def fills (place : Nat → Option (Nat × Nat)) : List V → List (Nat × V) → Prop × List V
  | cells, [] => (True, cells)
  | cells, (i, v) :: rest =>
    match place i with
    | none => (False, cells)
    | some (off, size) =>
      let r := fills place (splice cells off v.cells) rest
      (v.cells.length = size ∧ off + size ≤ cells.length ∧ v.cells.all V.cell1 = true ∧ r.1, r.2)

def fillRows (size : Nat) : List (List V) → List (Nat × V) → Prop × List (List V)
  | rows, [] => (True, rows)
  | rows, (i, v) :: rest =>
    let r := fillRows size (rows.set i v.cells) rest
    (v.cells.length = size ∧ i < rows.length ∧ v.cells.all V.cell1 = true ∧ r.1, r.2)

def V.len : V → Option Nat
  | .nil => some 0
  | .sl _ els => some els.length
  | .bsl _ _ n => some n
  | .osl _ _ _ _ len _ => some len
  | .emp => some 0
  | _ => none

def asI : V → Option Int
  | .int _ n => some n
  | _ => none

def optI (ρ : Operand → V) : Option Operand → Option (Option Int)
  | none => some none
  | some x => (asI (ρ x)).map some

def foldMax (k : IntKind) (isMax : Bool) : Int → List V → Prop × Int
  | m, [] => (True, m)
  | m, .int k' n :: r => let x := foldMax k isMax (if isMax then (if n > m then n else m) else (if n < m then n else m)) r; (k = k' ∧ x.1, x.2)
  | m, _ :: _ => (False, m)

def appendV (E : Env) (key : Nat) (T : TypeId) (s x : V) (h : Hp) : Out :=
  match slEl E.P T with
  | none => bad h
  | some e =>
    let z := E.P.cellsOf e
    let src : Prop × List (List V) × Bool := match x with
      | .nil => (True, [], true)
      | .sl z' els => (z' = z, els, true)
      | .bsl s' i' n' => match hget h s' i' with
        | some B => (B.z = z ∧ n' = B.els.length, B.els, B.cl)
        | none => (False, [], true)
      | .osl s' i' n' off len _ => match hget h s' i' with
        | some B => (B.z = z ∧ n' = B.els.length ∧ off + len ≤ B.els.length, (B.els.drop off).take len, B.cl)
        | none => (False, [], true)
      | _ => (False, [], true)
    match s with
    | .nil =>
      ⟨src.1 ∧ 0 < z ∧ (zc E.P e).length = z ∧ 0 < E.P.bytesOf e ∧ (src.2.1.length) * E.P.bytesOf e ≤ 140737488355328, .bsl key (hnext h key) src.2.1.length, hpush h key { z := z, els := src.2.1, ty := e, cl := src.2.2 }⟩
    | .bsl s0 i0 n0 =>
      match hget h s0 i0 with
      | none => bad h
      | some B => ⟨src.1 ∧ 0 < z ∧ (zc E.P e).length = z ∧ 0 < E.P.bytesOf e ∧ B.z = z ∧ B.ty = e ∧ B.fz = false ∧ n0 = B.els.length ∧ (B.els.length + src.2.1.length) * E.P.bytesOf e ≤ 140737488355328,
          .bsl s0 i0 (B.els.length + src.2.1.length), hset h s0 i0 { B with els := B.els ++ src.2.1, cl := B.cl && src.2.2 }⟩
    | .osl s0 i0 n0 off len cap =>
      match hget h s0 i0 with
      | none => bad h
      | some B => ⟨src.1 ∧ 0 < z ∧ B.z = z ∧ (zc E.P e).length = z ∧ B.ty = e ∧ B.fz = false ∧ n0 = B.els.length ∧ off = 0 ∧ B.els ≠ [] ∧ len + src.2.1.length ≤ cap ∧ cap ≤ B.els.length,
          .osl s0 i0 n0 0 (len + src.2.1.length) cap, hset h s0 i0 { B with els := B.els.take len ++ src.2.1 ++ B.els.drop (len + src.2.1.length), cl := B.cl && src.2.2 }⟩
    | .emp => if src.2.1 = [] then ⟨src.1 ∧ 0 < z ∧ (zc E.P e).length = z, .emp, h⟩ else
      ⟨src.1 ∧ 0 < z ∧ (zc E.P e).length = z ∧ 0 < E.P.bytesOf e ∧ (src.2.1.length) * E.P.bytesOf e ≤ 140737488355328, .osl key (hnext h key) src.2.1.length 0 src.2.1.length src.2.1.length, hpush h key { z := z, els := src.2.1, ty := e, cl := src.2.2 }⟩
    | _ => bad h

def sliceV (P : Program) (T : TypeId) (x : V) (lo hi mx : Option (Option Int)) (h : Hp) : Prop × V :=
  match lo, hi, mx with
  | some lo, some hi, some none =>
    let l := lo.getD 0
    match x with
    | .nil => (slEl P T ≠ none ∧ l = 0 ∧ hi.getD 0 = 0 ∧ 0 < ((slEl P T).map P.cellsOf).getD 0, .nil)
    | .sl z els => (slEl P T ≠ none ∧ (slEl P T).map P.cellsOf = some z ∧ 0 ≤ l ∧ l ≤ hi.getD els.length ∧ hi.getD els.length ≤ els.length ∧ 0 < z, .sl z ((els.drop l.toNat).take ((hi.getD els.length).toNat - l.toNat)))
    | .ip z els e j => match arEl P T with
      | some (n, el) => (P.cellsOf el = 1 ∧ 0 ≤ l ∧ l ≤ hi.getD n ∧ hi.getD n ≤ n ∧ e < els.length ∧ j + n ≤ z, .sl 1 (((((els.getD e []).drop j).drop l.toNat).take ((hi.getD n).toNat - l.toNat)).map fun c => [c]))
      | none => (False, .top)
    | .bptr s i n0 e j => match arEl P T, hget h s i with
      | some (n, el), some B => (B.fz = true ∧ B.cl = true ∧ n0 = B.els.length ∧ P.cellsOf el = 1 ∧ 0 ≤ l ∧ l ≤ hi.getD n ∧ hi.getD n ≤ n ∧ e < B.els.length ∧ j + n ≤ B.z, .sl 1 (((((B.els.getD e []).drop j).drop l.toNat).take ((hi.getD n).toNat - l.toNat)).map fun c => [c]))
      | _, _ => (False, .top)
    | .bsl s i n => match hget h s i with
      | some B => match B.fz with
        | true => (slEl P T ≠ none ∧ (slEl P T).map P.cellsOf = some B.z ∧ n = B.els.length ∧ 0 < n ∧ 0 ≤ l ∧ l ≤ hi.getD n ∧ hi.getD n ≤ n ∧ B.cl = true ∧ 0 < B.z, .sl B.z ((B.els.drop l.toNat).take ((hi.getD n).toNat - l.toNat)))
        | false => (slEl P T ≠ none ∧ (slEl P T).map P.cellsOf = some B.z ∧ n = B.els.length ∧ 0 ≤ l ∧ l ≤ hi.getD n ∧ hi.getD n ≤ n ∧ l < n ∧ 0 < B.z, .osl s i n l.toNat ((hi.getD n).toNat - l.toNat) (n - l.toNat))
      | none => (False, .top)
    | .osl s i n off len cap => ((slEl P T ≠ none ∧ 0 < ((slEl P T).map P.cellsOf).getD 0 ∧ 0 ≤ l ∧ l ≤ hi.getD len ∧ hi.getD len ≤ cap ∧ len ≤ cap) ∧ (l = 0 ∨ (l < cap ∧ match hget h s i with | some B => (slEl P T).map P.cellsOf = some B.z | none => False)), .osl s i n (off + l.toNat) ((hi.getD len).toNat - l.toNat) (cap - l.toNat))
    | _ => (False, .top)
  | some lo, some (some hi), some (some m) =>
    match x with
    | .bsl s i n => match hget h s i with
      | some B => (slEl P T ≠ none ∧ 0 < ((slEl P T).map P.cellsOf).getD 0 ∧ n = B.els.length ∧ 0 ≤ lo.getD 0 ∧ lo.getD 0 ≤ hi ∧ hi ≤ m ∧ m ≤ n, .top)
      | none => (False, .top)
    | .osl _ _ _ _ _ cap => (slEl P T ≠ none ∧ 0 < ((slEl P T).map P.cellsOf).getD 0 ∧ 0 ≤ lo.getD 0 ∧ lo.getD 0 ≤ hi ∧ hi ≤ m ∧ m ≤ cap, .top)
    | _ => (False, .top)
  | _, _, _ => (False, .top)

/-- A slice of a block that goes on by itself: the block is a new one from here on. -/
def sCut (P : Program) (key : Nat) (T : TypeId) (x : V) (lo hi mx : Option (Option Int)) (h : Hp) : Out :=
  match lo, hi, mx, x, slEl P T with
  | some lo, some hi, some none, .bsl s i n, some e =>
    match hget h s i with
    | some B => ⟨B.z = P.cellsOf e ∧ 0 < B.z ∧ n = B.els.length ∧ B.fz = false ∧ 0 ≤ lo.getD 0 ∧ lo.getD 0 ≤ hi.getD n ∧ hi.getD n ≤ n, .bsl key (hnext h key) ((hi.getD n).toNat - (lo.getD 0).toNat),
        hpush (hcut h s i) key { B with els := (B.els.drop (lo.getD 0).toNat).take ((hi.getD n).toNat - (lo.getD 0).toNat) }⟩
    | none => bad h
  | _, _, _, _, _ => bad h

/-- The first elements of a slice. -/
def takeV (k : Nat) : V → V
  | .sl z els => .sl z (els.take k)
  | .osl s i n off len cap => .osl s i n off (min k len) cap
  | v => v
def srcB (h : Hp) (z : Nat) (x : V) : Prop × List (List V) × Bool :=
  match x with
  | .nil => (True, [], true)
  | .sl z' els => (z' = z, els, true)
  | .bsl s' i' n' => match hget h s' i' with
    | some B => (B.z = z ∧ n' = B.els.length, B.els, B.cl)
    | none => (False, [], true)
  | .osl s' i' n' off len _ => match hget h s' i' with
    | some B => (B.z = z ∧ n' = B.els.length ∧ off + len ≤ B.els.length, (B.els.drop off).take len, B.cl)
    | none => (False, [], true)
  | _ => (False, [], true)
def sCopy (P : Program) (T : TypeId) (d x : V) (h : Hp) : Out :=
  match slEl P T, d, x.len with
  | some e, .osl s0 i0 n0 off len cap, some m =>
    match hget h s0 i0 with
    | some B => ⟨(srcB h B.z (takeV (min m len) x)).1 ∧ (srcB h B.z (takeV (min m len) x)).2.1.length = min m len ∧ B.z = P.cellsOf e ∧ 0 < B.z ∧ (zc P e).length = P.cellsOf e ∧ B.ty = e ∧ B.fz = false ∧ n0 = B.els.length ∧ B.els ≠ [] ∧ off + len ≤ B.els.length, .int .i64 (min m len : Nat),
        hset h s0 i0 { B with els := B.els.take off ++ (srcB h B.z (takeV (min m len) x)).2.1 ++ B.els.drop (off + min m len), cl := B.cl && (srcB h B.z (takeV (min m len) x)).2.2 }⟩
    | none => bad h
  | _, _, _ => bad h

/-- clear: the elements of a window are zero. -/
def sClear (P : Program) (T : TypeId) (x : V) (h : Hp) : Out :=
  match slEl P T, x with
  | some e, .osl s i n off len _ =>
    match hget h s i with
    | some B => ⟨B.z = P.cellsOf e ∧ 0 < B.z ∧ (zc P e).length = P.cellsOf e ∧ (zc P e).all V.cell1 = true ∧ B.fz = false ∧ n = B.els.length ∧ B.els ≠ [] ∧ off + len ≤ B.els.length ∧ 0 < len, .tup [],
        hset h s i { B with els := B.els.take off ++ List.replicate len (zc P e) ++ B.els.drop (off + len) }⟩
    | none => bad h
  | _, _ => bad h

def sAlloc (P : Program) (key : Nat) (T : TypeId) (h : Hp) : Out :=
  ⟨(zc P T).length = P.cellsOf T ∧ 0 < P.cellsOf T ∧ (zc P T).all V.cell1 = true, .bptr key (hnext h key) 1 0 0, hpush h key { z := P.cellsOf T, els := [zc P T], ty := T }⟩

def sBox (P : Program) (key : Nat) (T : TypeId) (x : V) (h : Hp) : Out :=
  ⟨x.cells.length = P.cellsOf T ∧ x.cells.all V.cell1 = true, .bptr key (hnext h key) 1 0 0, hpush h key { z := P.cellsOf T, els := [x.cells], ty := T, cl := x.cells.all V.refFree }⟩

/-- All fields of a struct have cells. -/
def fldsOk (P : Program) (T : TypeId) : Bool :=
  match P.underlying T with
  | some (.struct fs) => fs.toList.all fun f => decide (0 < P.cellsOf f.type)
  | _ => true

def isSt (P : Program) (T : TypeId) : Bool := match P.underlying T with | some (.struct _) => true | _ => false

def sBuild (P : Program) (T : TypeId) (parts : List (Nat × V)) (h : Hp) : Out :=
  match isSt P T, arEl P T with
  | true, _ =>
    match fills (fun i => (fld P T i).map fun p => (p.1, P.cellsOf p.2)) (zc P T) parts with
    | (c, r) => ⟨(zc P T).length = P.cellsOf T ∧ 0 < P.cellsOf T ∧ (zc P T).all V.cell1 = true ∧ fldsOk P T = true ∧ c, .agg r, h⟩
  | false, some (_, e) =>
    match fills (fun i => some (i * P.cellsOf e, P.cellsOf e)) (zc P T) parts with
    | (c, r) => ⟨(zc P T).length = P.cellsOf T ∧ 0 < P.cellsOf T ∧ (zc P T).all V.cell1 = true ∧ 0 < P.cellsOf e ∧ c, .agg r, h⟩
  | _, _ => bad h

def sBuildSlice (P : Program) (own : Bool) (key : Nat) (T : TypeId) (n : Nat) (parts : List (Nat × V)) (h : Hp) : Out :=
  match slEl P T with
  | some e =>
    match fillRows (P.cellsOf e) (List.replicate n (zc P e)) parts with
    | (c, r) =>
      if own then ⟨((zc P e).length = P.cellsOf e ∧ 0 < P.cellsOf e ∧ n * P.cellsOf e ≤ 1048576 ∧ (zc P e).all V.cell1 = true ∧ c), .bsl key (hnext h key) n, hpush h key { z := P.cellsOf e, els := r, ty := e, cl := r.all fun row => row.all V.refFree }⟩
      else ⟨((zc P e).length = P.cellsOf e ∧ 0 < P.cellsOf e ∧ n * P.cellsOf e ≤ 1048576 ∧ (zc P e).all V.cell1 = true ∧ c) ∧ (r.all fun row => row.all V.refFree) = true, .sl (P.cellsOf e) r, h⟩
  | none => bad h

/-- A literal of no elements: no nil slice. -/
def sBuildE (P : Program) (T : TypeId) (n : Nat) (parts : List (Nat × V)) (h : Hp) : Out :=
  match slEl P T, n, parts with
  | some e, 0, [] => ⟨0 < P.cellsOf e ∧ (zc P e).length = P.cellsOf e, .emp, h⟩
  | _, _, _ => bad h

omit [Gls] in
theorem sBuildE_h (P : Program) (T : TypeId) (n : Nat) (parts : List (Nat × V)) (h : Hp) : (sBuildE P T n parts h).h = h := by
  unfold sBuildE; split <;> rfl
omit [Gls] in
theorem sBuildE_free (P : Program) (T : TypeId) (n : Nat) (parts : List (Nat × V)) (h h' : Hp) : sBuildE P T n parts h' = { sBuildE P T n parts h with h := h' } := by
  unfold sBuildE; split <;> rfl

def sLoad (P : Program) (T : TypeId) (a : V) (h : Hp) : Out :=
  match a with
  | .ip z els e j => ⟨e < els.length ∧ j + P.cellsOf T ≤ z ∧ (isAg P T = false → P.cellsOf T = 1) ∧ tyOk P T = true ∧ 0 < P.cellsOf T, loadR P T (els.getD e []) j, h⟩
  | .bptr s i n e j => match hget h s i with
    | some B => ⟨n = B.els.length ∧ e < B.els.length ∧ j + P.cellsOf T ≤ B.z ∧ (isAg P T = false → P.cellsOf T = 1) ∧ tyOk P T = true ∧ 0 < P.cellsOf T, loadR P T (B.els.getD e []) j, h⟩
    | none => bad h
  | _ => bad h

def sStore (P : Program) (T : TypeId) (a x : V) (h : Hp) : Out :=
  match a with
  | .bptr s i n e j => match hget h s i with
    | some B => ⟨n = B.els.length ∧ e < B.els.length ∧ j + P.cellsOf T ≤ B.z ∧ 0 < P.cellsOf T ∧ B.fz = false ∧ x.cells.length = P.cellsOf T ∧ x.cells.all V.cell1 = true, .top,
        hset h s i { B with els := B.els.set e (splice (B.els.getD e []) j x.cells), cl := B.cl && x.cells.all V.refFree }⟩
    | none => bad h
  | _ => bad h

def sUn (op : UnOp) (x : V) (h : Hp) : Out :=
  match op, x with
  | .not, .bool b => ⟨True, .bool !b, h⟩
  | .neg, .int k n => ⟨True, .int k (k.wrap (0 - n)), h⟩
  | _, _ => bad h

def sConv (P : Program) (S D : TypeId) (x : V) (h : Hp) : Out :=
  match x, intK P S, intK P D with
  | .int _ n, some _, some k => ⟨True, .int k (k.wrap n), h⟩
  | _, _, _ => bad h

def sMakeSlice (P : Program) (own : Bool) (key : Nat) (T : TypeId) (l c : V) (h : Hp) : Out :=
  match slEl P T, l, c with
  | some e, .int _ n, .int _ m =>
    if own then
      ⟨0 ≤ n ∧ n ≤ m ∧ (zc P e).length = P.cellsOf e ∧ 0 < P.cellsOf e ∧ (zc P e).all V.cell1 = true ∧ m * P.bytesOf e ≤ 140737488355328 ∧ m ≤ 9223372036854775807, .osl key (hnext h key) m.toNat 0 n.toNat m.toNat,
        hpush h key { z := P.cellsOf e, els := List.replicate m.toNat (zc P e), ty := e }⟩
    else
      ⟨0 ≤ n ∧ n ≤ m ∧ (zc P e).length = P.cellsOf e ∧ 0 < P.cellsOf e ∧ (zc P e).all V.cell1 = true ∧ m * P.bytesOf e ≤ 140737488355328 ∧ m ≤ 9223372036854775807, .bsl key (hnext h key) n.toNat,
        hpush h key { z := P.cellsOf e, els := List.replicate n.toNat (zc P e), ty := e }⟩
  | _, _, _ => bad h

/-- append(nil, make([]T, m)...): m new rows. -/
def sAppendZ (P : Program) (own : Bool) (key : Nat) (T T2 : TypeId) (s x : V) (h : Hp) : Out :=
  match slEl P T, intK P T2, s, x with
  | some e, some _, .nil, .int _ m =>
    ⟨own = true ∧ 0 < m ∧ (zc P e).length = P.cellsOf e ∧ 0 < P.cellsOf e ∧ (zc P e).all V.cell1 = true ∧ m * P.bytesOf e ≤ 140737488355328 ∧ m ≤ 9223372036854775807, .osl key (hnext h key) m.toNat 0 m.toNat m.toNat,
      hpush h key { z := P.cellsOf e, els := List.replicate m.toNat (zc P e), ty := e }⟩
  | _, _, _, _ => bad h

def sCap (P : Program) (T : TypeId) (x : V) (h : Hp) : Out :=
  match x with
  | .nil => ⟨(slEl P T).isSome = true, .int .i64 0, h⟩
  | _ => bad h

def sFieldAddr (P : Program) (S : TypeId) (x : V) (f : Nat) (h : Hp) : Out :=
  match x, fld P S f with
  | .ip z els e j, some (o, ft) => ⟨0 < P.cellsOf ft, .ip z els e (j + o), h⟩
  | .bptr s i n e j, some (o, ft) => ⟨0 < P.cellsOf ft, .bptr s i n e (j + o), h⟩
  | _, _ => bad h

def sField (P : Program) (S : TypeId) (x : V) (f : Nat) (h : Hp) : Out :=
  match x, fld P S f with
  | .agg cs, some (o, ft) => ⟨o + P.cellsOf ft ≤ cs.length ∧ 0 < P.cellsOf ft ∧ (isAg P ft = false → P.cellsOf ft = 1) ∧ tyOk P ft = true, loadR P ft cs o, h⟩
  | _, _ => bad h

def sIndexAddr (P : Program) (T : TypeId) (x : V) (ix : V) (h : Hp) : Out :=
  match ix with
  | .int _ n => match x, slEl P T, arEl P T with
    | .sl z els, some e, _ => ⟨z = P.cellsOf e ∧ 0 < z ∧ 0 ≤ n ∧ n < els.length, .ip z els n.toNat 0, h⟩
    | .bsl s i m, some e, _ => match hget h s i with
      | some B => ⟨B.z = P.cellsOf e ∧ 0 < B.z ∧ m = B.els.length ∧ 0 ≤ n ∧ n < m, .bptr s i m n.toNat 0, h⟩
      | none => bad h
    | .osl s i m off len _, some e, _ => match hget h s i with
      | some B => ⟨B.z = P.cellsOf e ∧ 0 < B.z ∧ m = B.els.length ∧ 0 ≤ n ∧ n < len, .bptr s i m (off + n.toNat) 0, h⟩
      | none => bad h
    | .ip z els e0 j, _, some (len, e) => ⟨0 ≤ n ∧ n < len ∧ 0 < P.cellsOf e, .ip z els e0 (j + n.toNat * P.cellsOf e), h⟩
    | .bptr s i m e0 j, _, some (len, e) => ⟨0 ≤ n ∧ n < len ∧ 0 < P.cellsOf e, .bptr s i m e0 (j + n.toNat * P.cellsOf e), h⟩
    | _, _, _ => bad h
  | _ => bad h

def sIndex (P : Program) (T : TypeId) (x : V) (ix : V) (h : Hp) : Out :=
  match ix, x, arEl P T with
  | .int _ n, .agg cs, some (len, e) => ⟨0 ≤ n ∧ n < len ∧ cs.length = len * P.cellsOf e ∧ 0 < P.cellsOf e ∧ (isAg P e = false → P.cellsOf e = 1) ∧ tyOk P e = true, loadR P e cs (n.toNat * P.cellsOf e), h⟩
  | _, _, _ => bad h

def sLen (P : Program) (T : TypeId) (x : V) (h : Hp) : Out :=
  match x.len with
  | some n => ⟨(slEl P T).isSome = true, .int .i64 n, h⟩
  | none => bad h

def sMax (isMax : Bool) (xs : List V) (h : Hp) : Out :=
  match xs with
  | .int k m :: r => ⟨(foldMax k isMax m r).1, .int k (foldMax k isMax m r).2, h⟩
  | _ => bad h

def sCall (E : Env) (f : V) (args : List V) (h : Hp) : Out :=
  match f with
  | .fn g caps => callF E g (args ++ caps) h
  | .yld l => match E.yl with
    | some (l', Y) => if l = l' then Y.go args h else bad h
    | none => bad h
  | _ => bad h

/-- Ahead of a call of a pure function some sites' blocks are not written any more. -/
def preZ (E : Env) (dst : Nat) (f : V) (h : Hp) : Hp :=
  match f with
  | .fn g _ => match E.fn g with
    | some (.pure _) => frzHs (lkf E.cfz dst) h
    | _ => h
  | _ => h

def sExtract (x : V) (ix : Nat) (h : Hp) : Out :=
  match x with
  | .tup vs => ⟨ix < vs.length, vs.getD ix .top, h⟩
  | _ => bad h

def sPick (c a b : V) (h : Hp) : Out :=
  match c with
  | .bool t => ⟨True, vite t a b, h⟩
  | _ => bad h

def sNil (x : V) (h : Hp) : Out :=
  match x with
  | .bptr .. | .ip .. => ⟨True, x, h⟩
  | _ => bad h

/-- What one operation does. dst: the slot that it writes; with E.key it names the site of what it allocates. -/
def sem (E : Env) (dst : Nat) (op : Op) (ρ : Operand → V) (h : Hp) : Out :=
  match op with
  | .move x | .assign x => ⟨True, ρ x, h⟩
  | .pick c a b => sPick (ρ c) (ρ a) (ρ b) h
  | .alloc T => sAlloc E.P (E.key + dst) T h
  | .box T x => sBox E.P (E.key + dst) T (ρ x) h
  | .build T parts => sBuild E.P T (parts.toList.map fun p => (p.1, ρ p.2)) h
  | .buildSlice T n parts => if E.own.contains (dst + 500000) then sBuildE E.P T n (parts.toList.map fun p => (p.1, ρ p.2)) h else sBuildSlice E.P (E.own.contains dst) (E.key + dst) T n (parts.toList.map fun p => (p.1, ρ p.2)) h
  | .load T a => sLoad E.P T (ρ a) h
  | .store T a x => sStore E.P T (ρ a) (ρ x) h
  | .nilCheck x => sNil (ρ x) h
  | .binOp op T x y _ => match binV E.P op T (ρ x) (ρ y) with | (c, v) => ⟨c, v, h⟩
  | .unOp op _ x => sUn op (ρ x) h
  | .convert S D x => sConv E.P S D (ρ x) h
  | .makeFunc (.func f) first caps => if first.isEmpty then ⟨True, .fn f (caps.toList.map ρ), h⟩ else bad h
  | .makeSlice T l c => sMakeSlice E.P (E.own.contains dst) (E.key + dst) T (ρ l) (ρ c) h
  | .slice T x lo hi mx => if E.own.contains dst then sCut E.P (E.key + dst) T (ρ x) (optI ρ lo) (optI ρ hi) (optI ρ mx) h else match sliceV E.P T (ρ x) (optI ρ lo) (optI ρ hi) (optI ρ mx) h with | (c, v) => ⟨c, v, h⟩
  | .fieldAddr S x f => sFieldAddr E.P S (ρ x) f h
  | .field S x f => sField E.P S (ρ x) f h
  | .indexAddr T x ix => sIndexAddr E.P T (ρ x) (ρ ix) h
  | .index T x ix => sIndex E.P T (ρ x) (ρ ix) h
  | .extract x ix => sExtract (ρ x) ix h
  | .call c => match c.callee with
    | .builtin .len => match c.args.toList, c.argTypes.toList with
      | [x], [T] => sLen E.P T (ρ x) h
      | _, _ => bad h
    | .builtin .cap => match c.args.toList, c.argTypes.toList with
      | [x], [T] => sCap E.P T (ρ x) h
      | _, _ => bad h
    | .builtin .clear => match c.args.toList, c.argTypes.toList with
      | [x], [T] => sClear E.P T (ρ x) h
      | _, _ => bad h
    | .builtin .copy => match c.args.toList, c.argTypes.toList with
      | [d, x], [T, _] => sCopy E.P T (ρ d) (ρ x) h
      | _, _ => bad h
    | .builtin .max => sMax true (c.args.toList.map ρ) h
    | .builtin .min => sMax false (c.args.toList.map ρ) h
    | .builtin .append => match c.args.toList, c.argTypes.toList with
      | [s, x], [T, T2] => if T2 = T then appendV E (E.key + dst) T (ρ s) (ρ x) h else sAppendZ E.P (E.own.contains dst) (E.key + dst) T T2 (ρ s) (ρ x) h
      | _, _ => bad h
    | .value f => sCall E (ρ f) (c.args.toList.map ρ) (preZ E dst (ρ f) h)
    | _ => bad h
  | _ => bad h

def ev (st : St) : Operand → Bool × V
  | .tmp t => st.t t
  | .const v => (true, ofVal v)
  | .func f => (true, .fn f [])
  | .global g => (true, (Gls.G g).getD .top)

def ev2 (st : St) (x : Operand) : V := (ev st x).2

def allv (st : St) : List Operand → Prop
  | [] => True
  | x :: r => (ev st x).1 = true ∧ allv st r

def valid (st : St) : Op → Prop
  | .pick c a b => (ev st c).1 = true ∧ (ev2 st c = .bool true → (ev st a).1 = true) ∧ (ev2 st c = .bool false → (ev st b).1 = true)
  | .call c => allv st (match c.callee with | .value f => f :: c.args.toList | _ => c.args.toList)
  | op => allv st op.operands.toList

def upd (t : Nat → Bool × V) (d : Option Nat) (x : Bool × V) (k : Nat) : Bool × V :=
  match d with
  | some d => if k = d then x else t k
  | none => t k

/-- What a guard says: of an operation that was passed over, nothing but no. -/
def guardB (c : Bool) (v : V) (want : Bool) : Prop × Bool :=
  match c with
  | false => (True, false)
  | true => match v with
    | .bool b => (True, b == want)
    | _ => (False, false)
omit [Gls] in
theorem guardB_bool (c b want : Bool) : guardB c (.bool b) want = (True, c && (b == want)) := by cases c <;> rfl
omit [Gls] in
theorem guardB_off (v : V) (want : Bool) : guardB false v want = (True, false) := rfl
/-- A guard: is it known, and does it say yes? -/
def guardV (ops : List Oper) (st : St) : Option (Nat × Bool) → Prop × Bool
  | none => (True, true)
  | some (j, want) =>
    match (ops[j]?).bind (·.dst) with
    | some d => guardB (st.t d).1 (st.t d).2 want
    | none => (False, false)

def dstOk (nt : Nat) : Option Nat → Prop
  | some d => d < nt
  | none => True

def hite (b : Bool) (h h' : Hp) : Hp := match b with | true => h | false => h'

def step (E : Env) (ops : List Oper) (o : Oper) (st : St) : Prop × St :=
  match guardV ops st o.guard with
  | (gc, g) => match sem E (o.dst.getD 0) o.op (ev2 st) st.h with
    | ⟨c, v, h⟩ => (gc ∧ dstOk E.nt o.dst ∧ (g = true → valid st o.op ∧ c), { t := upd st.t o.dst (g, v), h := hite g h st.h })

def runL (E : Env) (ops : List Oper) : List Oper → St → Prop × St
  | [], st => (True, st)
  | o :: l, st => match step E ops o st with
    | (c, st') => match runL E ops l st' with
      | (c', st'') => (c ∧ c', st'')

end Go.Sx
end
section
/- The abstract weakest precondition of code. No conditions. -/
namespace Go.Sx
open Go.RowKit
variable [Gls]

inductive Ex where
  | normal
  | exit (id : Nat)
  | ret

/-- The heap h' says no more than h. -/
def HLe (h h' : Hp) : Prop := ((∀ s i B, hget h' s i = some B → hget h s i = some B) ∧ ∀ s, hnext h s ≤ hnext h' s) ∧ h' YS = h YS

def TLe (t t' : Nat → Bool × V) : Prop := ∀ k, t' k = (true, .top) ∨ t' k = t k ∨ ∃ x, t k = (true, x) ∧ ∃ y, t' k = (true, y) ∧ sub x y

structure StLe (st st' : St) : Prop where
  t : TLe st.t st'.t
  h : HLe st.h st'.h

/-- Whether a round has said 'no more'. -/
def hfl (h : Hp) (b : Bool) (s : Nat) : Site := if s = YS then { base := hnext h YS, blks := [], fl := b } else h s

/-- A nil slice as an owned one without elements. -/
inductive Gh : St → St → Prop
  | refl (st : St) : Gh st st
  | nil (st st' : St) (k key z : Nat) (ty : TypeId) (hk : st.t k = (true, .nil)) (hz : 0 < z) (hy : key ≠ YS) (h : Gh { t := upd st.t (some k) (true, .bsl key (hnext st.h key) 0), h := hpush st.h key { z := z, els := [], ty := ty } } st') : Gh st st'

/-- What the operation does is the same on every heap, and it leaves the heap. -/
def FreeAt (E : Env) (o : Oper) (st : St) : Prop := ∀ h h', sem E (o.dst.getD 0) o.op (ev2 st) h' = { sem E (o.dst.getD 0) o.op (ev2 st) h with h := h' }

/-- A load of a block that is not written any more. -/
def FzOk (o : Oper) (st : St) : Prop := match o.op with
  | .load _ a => match ev2 st a with
    | .bptr s i _ _ _ => match hget st.h s i with
      | some B => B.fz = true
      | none => False
    | _ => False
  | _ => False

/-- An append to no slice. -/
def nilApp (c : Call) : Bool := match c.callee, c.args.toList with
  | .builtin .append, [.const (.slice none 0 0), _] => true
  | _, _ => false
/-- Makes a block of its own. -/
def pusher (o : Oper) : Bool := match o.op with
  | .alloc _ | .box .. | .makeSlice .. | .buildSlice .. => true
  | .call c => nilApp c
  | _ => false
/-- An append of an immutable slice to no slice. -/
def NwOk (o : Oper) (st : St) : Prop := match o.op with
  | .call c => match c.callee, c.args.toList, c.argTypes.toList with
    | .builtin .append, [.const (.slice none 0 0), x], [T, T2] => T2 = T ∧ match ev2 st x with
      | .sl _ _ | .nil => True
      | _ => False
    | _, _, _ => False
  | _ => False
/-- A load of a block, or a place in one, at a site where the region makes none. -/
def FoOk (E : Env) (ops : List Oper) (o : Oper) (st : St) : Prop := match o.op with
  | .load _ a => match ev2 st a with
    | .bptr s _ _ _ _ => (ops.all fun q => !pusher q || E.key + q.dst.getD 0 != s) = true
    | _ => False
  | .indexAddr _ a _ => match ev2 st a with
    | .bptr s _ _ _ _ | .bsl s _ _ | .osl s _ _ _ _ _ => (ops.all fun q => !pusher q || E.key + q.dst.getD 0 != s) = true
    | _ => False
  | _ => False

/-- Regions for which more is told: the region's number; the operations that are to be free of the heap; the orders that are walked. -/
abbrev Alts := List (Nat × (List Nat × List (List Nat)))

def runI (E : Env) (ops : List Oper) (fr : List Nat) : List Nat → St → Prop × St
  | [], st => (True, st)
  | i :: l, st => match ops[i]? with
    | none => runI E ops fr l st
    | some o => ((((fr.contains i = true → FreeAt E o st) ∧ (fr.contains (i + 1000) = true → FzOk o st) ∧ (fr.contains (i + 2000) = true → FoOk E ops o st) ∧ (fr.contains (i + 3000) = true → NwOk o st)) ∧ (step E ops o st).1) ∧ (runI E ops fr l (step E ops o st).2).1, (runI E ops fr l (step E ops o st).2).2)

def runs (E : Env) (ops : List Oper) (fr : List Nat) : List (List Nat) → St → (St → Prop) → Prop
  | [], _, _ => True
  | l :: r, st, K => ((runI E ops fr l st).1 ∧ K (runI E ops fr l st).2) ∧ runs E ops fr r st K

/-- Blocks that are not written any more: the slots are pointers into them, or slices of them. -/
def frz1 (h : Hp) : V → Prop × Hp
  | .bptr s i _ _ _ | .bsl s i _ => match hget h s i with
    | some B => (True, hset h s i { B with fz := true })
    | none => (False, h)
  | _ => (False, h)
/-- A slot's value, as an immutable one: what it refers to is not written any more. -/
def frzP (k : Nat) (st : St) : Prop × St := (((st.t k).2.leaf = true ∧ (lend1 st.h (st.t k).2).1) ∧ fzN 3 st.h (st.t k).2, { t := upd st.t (some k) ((st.t k).1, (lend1 st.h (st.t k).2).2), h := st.h })
/-- A slot's window goes on as a block of its own. -/
def frzW (q : Nat) (st : St) : Prop × St := match st.t (q % 1000) with
  | (g, .osl s i n off len cap) => match hget st.h s i with
    | some B => ((g = true ∧ q / 1000 ≠ 999999999) ∧ B.fz = false ∧ n = B.els.length ∧ off + len ≤ n ∧ len ≤ cap ∧ B.els ≠ [], { t := upd st.t (some (q % 1000)) (g, .bsl (q / 1000) (hnext st.h (q / 1000)) len), h := hpush (hcut st.h s i) (q / 1000) { B with els := (B.els.drop off).take len } })
    | none => (False, st)
  | (g, .bsl s i n) => match hget st.h s i with
    | some B => ((g = true ∧ q / 1000 ≠ 999999999) ∧ B.fz = false ∧ n = B.els.length ∧ B.els ≠ [], { t := upd st.t (some (q % 1000)) (g, .bsl (q / 1000) (hnext st.h (q / 1000)) n), h := hpush (hcut st.h s i) (q / 1000) B })
    | none => (False, st)
  | (_, .nil) | (_, .sl ..) | (_, .emp) => (True, st)
  | _ => (False, st)
def frzK (k : Nat) (st : St) : Prop × St := if 1000000 ≤ k then frzW (k - 1000000) st else if 100000 ≤ k then (True, { t := st.t, h := frzH st.h (k - 100000) }) else if 50000 ≤ k then frzP (k - 50000) st else match frz1 st.h (st.t k).2 with
  | (c, h') => (c, { t := st.t, h := h' })
def frzs : List Nat → St → Prop × St
  | [], st => (True, st)
  | k :: r, st => match frzK k st with
    | (c, st') => match frzs r st' with
      | (c', st'') => (c ∧ c', st'')

/-- Slots get values. -/
def setT (t : Nat → Bool × V) : List Nat → List V → Nat → Bool × V
  | p :: ps, x :: xs => setT (upd t (some p) (true, x)) ps xs
  | _, _ => t

def awp (E : Env) (ok : Alts) : Code → St → (Ex → St → Prop) → Prop
  | .skip, st, Q => Q .normal st
  | .region id ops draw, st, Q => match frzs (lkf E.frz id) st with
    | (c0, st) => c0 ∧ match draw, ok.lookup id with
      | true, some (fr, cs) => runs E ops.toList fr cs st fun st' => Q .normal st'
      | _, _ => match runL E ops.toList ops.toList st with
        | (c, st') => c ∧ Q .normal st'
  | .seq a b, st, Q => awp E ok a st fun e st' => match e with
    | .normal => awp E ok b st' Q
    | e => Q e st'
  | .cond c x y, st, Q => match ev st c with
    | (g, .bool b) => g = true ∧ (b = true → awp E ok x st Q) ∧ (b = false → awp E ok y st Q)
    | (g, .anyb) => g = true ∧ awp E ok x st Q ∧ awp E ok y st Q
    | _ => False
  | .block id c, st, Q => awp E ok c st fun e st' => match e with
    | .exit i => if i = id then Q .normal st' else Q (.exit i) st'
    | e => Q e st'
  | .loop c, st, Q => ∃ (ι : Type) (I : ι → St) (m : ι → Nat) (i0 : ι), (∃ st1, Gh st st1 ∧ StLe st1 (I i0)) ∧ ∀ i, awp E ok c (I i) fun e st' => match e with
    | .normal => ∃ j, StLe st' (I j) ∧ m j < m i
    | e => Q e st'
  | .exit id, st, Q => Q (.exit id) st
  | .ret, st, Q => Q .ret st
  | .rangeFunc g ps assign body, st, Q => E.yl = none ∧ ∃ (it : Nat) (caps : List V) (S : Nat → HSpec → HSpec) (Y : HSpec) (e0 : Ex),
      ((ev st g = (true, .fn it caps) ∧ E.fn it = some (.iter S)) ∧ (ps.toList.all fun p => decide (p < E.nt)) = true) ∧
      (∀ args h, (Y.go args h).c → ((h YS).blks = [] ∧ (h YS).fl = false) ∧ args.length = ps.size ∧ awp E ok assign { t := setT st.t ps.toList args, h := h } fun e st1 => match e with
        | .normal => awp E ok body st1 fun e st2 => match e with
          | .normal => (Y.go args h).v = .bool true ∧ HLe (hfl st2.h false) (Y.go args h).h
          | .ret => e0 = .ret ∧ (Y.go args h).v = .bool false ∧ HLe (hfl st2.h true) (Y.go args h).h
          | .exit id => e0 = .exit id ∧ (Y.go args h).v = .bool false ∧ HLe (hfl st2.h true) (Y.go args h).h
        | _ => False) ∧
      ∀ l, ((S l Y).go (.yld l :: caps) (hfl st.h false)).c ∧
        (((((S l Y).go (.yld l :: caps) (hfl st.h false)).h YS).fl = false → Q .normal { t := st.t, h := hfl ((S l Y).go (.yld l :: caps) (hfl st.h false)).h false }) ∧
         ((((S l Y).go (.yld l :: caps) (hfl st.h false)).h YS).fl = true → e0 ≠ .normal ∧ Q e0 { t := st.t, h := hfl ((S l Y).go (.yld l :: caps) (hfl st.h false)).h false }))
  | _, _, _ => False

end Go.Sx
end
