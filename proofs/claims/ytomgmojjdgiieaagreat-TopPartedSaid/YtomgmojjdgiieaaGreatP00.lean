/- Abstract values and their relation to the model's values. No conditions. -/
import Derived.WalkKit
set_option linter.unusedSimpArgs false
set_option linter.unusedVariables false
set_option linter.unusedSectionVars false
namespace Go.Sx
open Go.RowKit
structure Mp where
  sc : Bool
  d : List Int
  es : List ((Int × Int × Int) × List Int)
  deriving Inhabited
inductive V where
  | top
  | int (k : IntKind) (n : Int)
  | bool (b : Bool)
  | agg (cs : List V)
  | tup (vs : List V)
  | nil
  | nilp
  | nilf
  | nilm
  | sl (z : Nat) (els : List (List V))
  | ip (z : Nat) (els : List (List V)) (e j : Nat)
  | bsl (s i n : Nat)
  | bptr (s i n e j : Nat)
  | osl (s i n off len cap : Nat)
  | fn (f : Nat) (caps : List V)
  | yld (l : Nat)
  | emp
  | anyb
  | bmp (s i : Nat)
  | mpi (m : Mp)
  deriving Inhabited
def cvK (p : Int × Int × Int) : Value := .agg #[.int .i64 p.1, .int .i64 p.2.1, .int .i64 p.2.2]
def cvX (sc : Bool) (l : List Int) : Value := if sc = true then .int .i64 (l.headD 0) else .agg (l.map fun n => Value.int .i64 n).toArray
def kR (p : Int × Int × Int) : Prop := (-9223372036854775808 ≤ p.1 ∧ p.1 ≤ 9223372036854775807) ∧ (-9223372036854775808 ≤ p.2.1 ∧ p.2.1 ≤ 9223372036854775807) ∧ -9223372036854775808 ≤ p.2.2 ∧ p.2.2 ≤ 9223372036854775807
structure MpOK (es : Array MapEntry) (m : Mp) : Prop where
  l : (es.toList.map fun e => (e.key, e.val)) = m.es.map fun p => (cvK p.1, cvX m.sc p.2)
  n : (m.es.map (·.1)).Nodup
  r : ∀ p ∈ m.es, kR p.1
abbrev und : Value := undef
inductive PV (w : World) (A : Nat → Prop) : V → Value → Prop
  | top (v : Value) : PV w A .top v
  | int (k : IntKind) (n : Int) : PV w A (.int k n) (.int k n)
  | bool (b : Bool) : PV w A (.bool b) (.bool b)
  | nil : PV w A .nil (.slice none 0 0)
  | nilp : PV w A .nilp (.pointer none)
  | nilf : PV w A .nilf .nilFunc
  | nilm : PV w A .nilm (.map none)
  | yld (l : Nat) : PV w A (.yld l) (.func (.yield l) #[] #[])
  | emp (a : Addr) : PV w A .emp (.slice (some a) 0 0)
  | anyb (b : Bool) : PV w A .anyb (.bool b)
  | agg (cs : List V) (us : Array Value) (hl : us.size = cs.length) (h : ∀ i c, cs[i]? = some c → PV w A c (us.getD i und)) : PV w A (.agg cs) (.agg us)
  | tup (cs : List V) (us : Array Value) (hl : us.size = cs.length) (h : ∀ i c, cs[i]? = some c → PV w A c (us.getD i und)) : PV w A (.tup cs) (.tuple us)
  | fn (f : Nat) (cs : List V) (us : Array Value) (hl : us.size = cs.length) (h : ∀ i c, cs[i]? = some c → PV w A c (us.getD i und)) : PV w A (.fn f cs) (.func (.func f) #[] us)
  | sl0 (z : Nat) (a : Option Addr) (cap : Nat) : PV w A (.sl z []) (.slice a 0 cap)
  | sl (z : Nat) (els : List (List V)) (b off cap : Nat) (u : Nat → Nat → Value) (hcap : els.length ≤ cap) (hb : b < w.heap.size) (hA : ¬ A b) (hz : ∀ row ∈ els, row.length = z)
      (hc : ∀ e j row c, els[e]? = some row → row[j]? = some c → w.cell? ⟨b, off + e * z + j, none⟩ = some (u e j) ∧ (u e j).oneCell' = true)
      (h : ∀ e j row c, els[e]? = some row → row[j]? = some c → PV w A c (u e j)) : PV w A (.sl z els) (.slice (some ⟨b, off, none⟩) els.length cap)
  | ip (z : Nat) (els : List (List V)) (e0 j0 : Nat) (b off : Nat) (u : Nat → Nat → Value) (hb : b < w.heap.size) (hA : ¬ A b) (hz : ∀ row ∈ els, row.length = z)
      (hc : ∀ e j row c, els[e]? = some row → row[j]? = some c → w.cell? ⟨b, off + e * z + j, none⟩ = some (u e j) ∧ (u e j).oneCell' = true)
      (h : ∀ e j row c, els[e]? = some row → row[j]? = some c → PV w A c (u e j)) : PV w A (.ip z els e0 j0) (.pointer (some ⟨b, off + e0 * z + j0, none⟩))
  | mpi (m : Mp) (r : Nat) (es : Array MapEntry) (clk : Nat) (hr : w.heap[r]? = some (Obj.map es clk)) (hA : ¬ A r) (hm : MpOK es m) : PV w A (.mpi m) (.map (some r))
def Later (w : World) (A : Nat → Prop) (w' : World) (A' : Nat → Prop) : Prop :=
  w.heap.size ≤ w'.heap.size ∧ ∀ b, b < w.heap.size → ¬ A b → w'.heap[b]? = w.heap[b]? ∧ ¬ A' b
theorem Later.refl (w : World) (A : Nat → Prop) : Later w A w A := ⟨Nat.le_refl _, fun _ _ h => ⟨rfl, h⟩⟩
theorem Later.trans {w w' w'' : World} {A A' A'' : Nat → Prop} (h : Later w A w' A') (k : Later w' A' w'' A'') : Later w A w'' A'' :=
  ⟨Nat.le_trans h.1 k.1, fun b hb hA =>
    have h1 := h.2 b hb hA
    have h2 := k.2 b (Nat.lt_of_lt_of_le hb h.1) h1.2
    ⟨h2.1.trans h1.1, h2.2⟩⟩
theorem PV.mono {w w' : World} {A A' : Nat → Prop} (hL : Later w A w' A') {x : V} {v : Value} (h : PV w A x v) : PV w' A' x v := by
  induction h with
  | top v => exact .top v
  | int k n => exact .int k n
  | bool b => exact .bool b
  | nil => exact .nil
  | nilp => exact .nilp
  | nilf => exact .nilf
  | nilm => exact .nilm
  | yld l => exact .yld l
  | emp a => exact .emp a
  | anyb b => exact .anyb b
  | agg cs us hl _ ih => exact .agg cs us hl ih
  | tup cs us hl _ ih => exact .tup cs us hl ih
  | fn f cs us hl _ ih => exact .fn f cs us hl ih
  | sl0 z a cap => exact .sl0 z a cap
  | sl z els b off cap u hcap hb hA hz hc _ ih =>
    have h1 := hL.2 b hb hA
    refine .sl z els b off cap u hcap (Nat.lt_of_lt_of_le hb hL.1) h1.2 hz (fun e j row c he hj => ?_) ih
    rw [World.cell?_of_block (w := w) h1.1]
    exact hc e j row c he hj
  | ip z els e0 j0 b off u hb hA hz hc _ ih =>
    have h1 := hL.2 b hb hA
    refine .ip z els e0 j0 b off u (Nat.lt_of_lt_of_le hb hL.1) h1.2 hz (fun e j row c he hj => ?_) ih
    rw [World.cell?_of_block (w := w) h1.1]
    exact hc e j row c he hj
  | mpi m r es clk hr hA hm =>
    have h1 := hL.2 r (Array.getElem?_eq_some_iff.1 hr).1 hA
    exact .mpi m r es clk (h1.1.trans hr) h1.2 hm
abbrev YS : Nat := 999999999
structure Hd where
  b : Nat
  z : Nat
  len : Nat
  v : Value
  o : Nat := 0
def Hd.cap (d : Hd) : Nat := match d.v with | .slice _ _ c => c | _ => 0
structure Refs where
  D : Nat → Nat → Hd
  N : Nat → Nat
  M : Nat → Nat → Nat := fun _ _ => 0
  K : Nat → Nat := fun _ => 0
def Kle (X X' : Refs) : Prop := ∀ s i, i < X.K s → i < X'.K s ∧ X'.M s i = X.M s i
def Xle (X X' : Refs) : Prop := (∀ s i, i < X.N s → i < X'.N s ∧ (X'.D s i = X.D s i ∨ (X.D s i).len < (X'.D s i).len)) ∧ Kle X X'
theorem Kle.refl (X : Refs) : Kle X X := fun _ _ h => ⟨h, rfl⟩
theorem Kle.same {X X' : Refs} (h : X'.K = X.K) (k : X'.M = X.M) : Kle X X' := fun s i hi => ⟨by rw [h]; exact hi, by rw [k]⟩
theorem Xle.refl (X : Refs) : Xle X X := ⟨fun _ _ h => ⟨h, .inl rfl⟩, .refl X⟩
theorem Xle.trans {X Y Z : Refs} (h : Xle X Y) (k : Xle Y Z) : Xle X Z := ⟨fun s i hi => by
  obtain ⟨h1, h2⟩ := h.1 s i hi
  obtain ⟨k1, k2⟩ := k.1 s i h1
  refine ⟨k1, ?_⟩
  rcases h2 with h2 | h2 <;> rcases k2 with k2 | k2
  · exact .inl (k2.trans h2)
  · exact .inr (by rw [← h2]; exact k2)
  · exact .inr (by rw [k2]; exact h2)
  · exact .inr (Nat.lt_trans h2 k2), fun s i hi => by
  obtain ⟨h1, h2⟩ := h.2 s i hi
  obtain ⟨k1, k2⟩ := k.2 s i h1
  exact ⟨k1, k2.trans h2⟩⟩
inductive RV (w : World) (A : Nat → Prop) (X : Refs) : V → Value → Prop
  | pure {x : V} {v : Value} (h : PV w A x v) : RV w A X x v
  | agg (cs : List V) (us : Array Value) (hl : us.size = cs.length) (h : ∀ i c, cs[i]? = some c → RV w A X c (us.getD i und)) : RV w A X (.agg cs) (.agg us)
  | tup (cs : List V) (us : Array Value) (hl : us.size = cs.length) (h : ∀ i c, cs[i]? = some c → RV w A X c (us.getD i und)) : RV w A X (.tup cs) (.tuple us)
  | fn (f : Nat) (cs : List V) (us : Array Value) (hl : us.size = cs.length) (h : ∀ i c, cs[i]? = some c → RV w A X c (us.getD i und)) : RV w A X (.fn f cs) (.func (.func f) #[] us)
  | bsl (s i n : Nat) (a : Option Addr) (c : Nat) (hN : i < X.N s) (hn : n ≤ (X.D s i).len) (hv : n = (X.D s i).len → .slice a n c = (X.D s i).v) : RV w A X (.bsl s i n) (.slice a n c)
  | bptr (s i n e j : Nat) (a : Addr) (hN : i < X.N s) (hn : n ≤ (X.D s i).len) (hv : n = (X.D s i).len → a = ⟨(X.D s i).b, (X.D s i).o + e * (X.D s i).z + j, none⟩) : RV w A X (.bptr s i n e j) (.pointer (some a))
  | osl (s i n off len cap : Nat) (a : Addr) (c : Nat) (hcc : cap ≤ c) (hN : i < X.N s) (hn : n ≤ (X.D s i).len) (hv : n = (X.D s i).len → a = ⟨(X.D s i).b, (X.D s i).o + off * (X.D s i).z, none⟩ ∧ off + c ≤ (X.D s i).cap) : RV w A X (.osl s i n off len cap) (.slice (some a) len c)
  | bmp (s i : Nat) (hK : i < X.K s) : RV w A X (.bmp s i) (.map (some (X.M s i)))
theorem RV.mono {w w' : World} {A A' : Nat → Prop} {X X' : Refs} (hL : Later w A w' A') (hX : Xle X X') {x : V} {v : Value} (h : RV w A X x v) : RV w' A' X' x v := by
  induction h with
  | pure h => exact .pure (h.mono hL)
  | agg cs us hl _ ih => exact .agg cs us hl ih
  | tup cs us hl _ ih => exact .tup cs us hl ih
  | fn f cs us hl _ ih => exact .fn f cs us hl ih
  | bsl s i n a c hN hn hv =>
    obtain ⟨h1, h2⟩ := hX.1 s i hN
    rcases h2 with h2 | h2
    · exact .bsl s i n a c h1 (by rw [h2]; exact hn) (by rw [h2]; exact hv)
    · exact .bsl s i n a c h1 (by omega) (fun e => by omega)
  | bptr s i n e j a hN hn hv =>
    obtain ⟨h1, h2⟩ := hX.1 s i hN
    rcases h2 with h2 | h2
    · exact .bptr s i n e j a h1 (by rw [h2]; exact hn) (by rw [h2]; exact hv)
    · exact .bptr s i n e j a h1 (by omega) (fun e => by omega)
  | osl s i n off len cap a c hcc hN hn hv =>
    obtain ⟨h1, h2⟩ := hX.1 s i hN
    rcases h2 with h2 | h2
    · exact .osl s i n off len cap a c hcc h1 (by rw [h2]; exact hn) (by rw [h2]; exact hv)
    · exact .osl s i n off len cap a c hcc h1 (by omega) (fun e => by omega)
  | bmp s i hK =>
    obtain ⟨h1, h2⟩ := hX.2 s i hK
    rw [← h2]; exact .bmp s i h1
structure Blk where
  z : Nat
  els : List (List V)
  ty : TypeId
  fz : Bool := false
  cl : Bool := true
structure Site where
  base : Nat
  blks : List Blk
  fl : Bool := false
  mps : List Mp := []
abbrev Hp := Nat → Site
def hget (h : Hp) (s i : Nat) : Option Blk := if i < (h s).base then none else (h s).blks[i - (h s).base]?
def hset (h : Hp) (s i : Nat) (B : Blk) (s' : Nat) : Site := if s' = s then { h s with blks := (h s).blks.set (i - (h s).base) B } else h s'
def hnext (h : Hp) (s : Nat) : Nat := (h s).base + (h s).blks.length
def hpush (h : Hp) (s : Nat) (B : Blk) (s' : Nat) : Site := if s' = s then { h s with blks := (h s).blks ++ [B] } else h s'
theorem hget_push_new (h : Hp) (s : Nat) (B : Blk) : hget (hpush h s B) s (hnext h s) = some B := by
  simp [hget, hpush, hnext]
theorem hget_push_old (h : Hp) (s s' i : Nat) (B : Blk) (hne : s' = s → i ≠ hnext h s) : hget (hpush h s B) s' i = hget h s' i := by
  unfold hget hpush
  by_cases hs : s' = s
  · subst hs
    simp only [if_true]
    by_cases hb : i < (h s').base
    · simp [hb]
    · have h2 := hne rfl
      simp only [hb, if_false]
      rw [List.getElem?_append]
      split
      · rfl
      · rename_i h3
        have : (h s').blks.length < i - (h s').base := by simp only [hnext] at h2; omega
        rw [List.getElem?_eq_none (by simp; omega), List.getElem?_eq_none (by omega)]
  · simp [hs]
theorem hget_lt {h : Hp} {s i : Nat} {B : Blk} (hg : hget h s i = some B) : i < hnext h s := by
  unfold hget at hg
  split at hg
  · simp at hg
  · have := (List.getElem?_eq_some_iff.1 hg).1
    unfold hnext; omega
theorem hget_set_same {h : Hp} {s i : Nat} {B B' : Blk} (hg : hget h s i = some B) : hget (hset h s i B') s i = some B' := by
  unfold hget at hg
  split at hg
  · simp at hg
  · rename_i hb
    have := (List.getElem?_eq_some_iff.1 hg).1
    simp [hget, hset, hb, this]
theorem hget_set_other (h : Hp) {s i s' i' : Nat} (B' : Blk) (hne : ¬ (s' = s ∧ i' = i)) (hi : (h s).base ≤ i) : hget (hset h s i B') s' i' = hget h s' i' := by
  unfold hget hset
  by_cases hs : s' = s
  · subst hs
    simp only [if_true]
    by_cases hb : i' < (h s').base
    · simp [hb]
    · have : i' ≠ i := fun e => hne ⟨rfl, e⟩
      simp only [hb, if_false]
      rw [List.getElem?_set_ne (by omega)]
  · simp [hs]
theorem hget_base {h : Hp} {s i : Nat} {B : Blk} (hg : hget h s i = some B) : (h s).base ≤ i := by
  unfold hget at hg
  split at hg
  · simp at hg
  · omega
theorem hnext_set (h : Hp) (s i s' : Nat) (B : Blk) : hnext (hset h s i B) s' = hnext h s' := by
  unfold hnext hset
  by_cases hs : s' = s
  · subst hs; simp
  · simp [hs]
theorem hnext_push (h : Hp) (s s' : Nat) (B : Blk) : hnext (hpush h s B) s' = hnext h s' + if s' = s then 1 else 0 := by
  unfold hnext hpush
  by_cases hs : s' = s
  · subst hs; simp; omega
  · simp [hs]
def mget (h : Hp) (s i : Nat) : Option Mp := (h s).mps[i]?
def mset (h : Hp) (s i : Nat) (m : Mp) (s' : Nat) : Site := if s' = s then { h s with mps := (h s).mps.set i m } else h s'
def mpush (h : Hp) (s : Nat) (m : Mp) (s' : Nat) : Site := if s' = s then { h s with mps := (h s).mps ++ [m] } else h s'
theorem mps_set (h : Hp) (s i s' : Nat) (B : Blk) : (hset h s i B s').mps = (h s').mps := by
  unfold hset; split
  · rename_i e; subst e; rfl
  · rfl
theorem mps_push (h : Hp) (s s' : Nat) (B : Blk) : (hpush h s B s').mps = (h s').mps := by
  unfold hpush; split
  · rename_i e; subst e; rfl
  · rfl
theorem hget_mset (h : Hp) (s i : Nat) (m : Mp) (s' i' : Nat) : hget (mset h s i m) s' i' = hget h s' i' := by
  unfold hget mset; split
  · rename_i e; subst e; rfl
  · rfl
theorem hget_mpush (h : Hp) (s : Nat) (m : Mp) (s' i' : Nat) : hget (mpush h s m) s' i' = hget h s' i' := by
  unfold hget mpush; split
  · rename_i e; subst e; rfl
  · rfl
theorem hnext_mset (h : Hp) (s i : Nat) (m : Mp) (s' : Nat) : hnext (mset h s i m) s' = hnext h s' := by
  unfold hnext mset; split
  · rename_i e; subst e; rfl
  · rfl
theorem hnext_mpush (h : Hp) (s : Nat) (m : Mp) (s' : Nat) : hnext (mpush h s m) s' = hnext h s' := by
  unfold hnext mpush; split
  · rename_i e; subst e; rfl
  · rfl
def hcut (h : Hp) (s i s' : Nat) : Site := if s' = s then { h s with base := max (h s).base (i + 1), blks := (h s).blks.drop (i + 1 - (h s).base) } else h s'
theorem mps_cut (h : Hp) (s i s' : Nat) : (hcut h s i s').mps = (h s').mps := by
  unfold hcut; split
  · rename_i e; subst e; rfl
  · rfl
theorem hget_cut (h : Hp) (s i s' i' : Nat) : hget (hcut h s i) s' i' = if s' = s ∧ i' ≤ i then none else hget h s' i' := by
  unfold hget hcut
  by_cases hs : s' = s
  · subst hs
    simp only [if_true, true_and]
    by_cases hi : i' ≤ i
    · rw [if_pos (by omega), if_pos hi]
    · rw [if_neg hi]
      by_cases hb : i' < (h s').base
      · rw [if_pos (by omega), if_pos hb]
      · rw [if_neg (by omega), if_neg hb, List.getElem?_drop]
        congr 1; omega
  · simp [hs]
theorem hnext_cut {h : Hp} {s i : Nat} (hi : i < hnext h s) (s' : Nat) : hnext (hcut h s i) s' = hnext h s' := by
  unfold hnext at hi
  unfold hnext hcut
  by_cases hs : s' = s
  · subst hs; simp only [if_true, List.length_drop]; omega
  · simp [hs]
structure Fr where
  w0 : World
  A0 : Nat → Prop
  X0 : Refs
  M : Nat → Prop
structure BOK (F : Fr) (w : World) (A : Nat → Prop) (X : Refs) (s i : Nat) (B : Blk) : Prop where
  hN : i < X.N s
  hz : (X.D s i).z = B.z
  hlen : (X.D s i).len = B.els.length
  rows : ∀ row ∈ B.els, row.length = B.z
  mem : ((X.D s i).v = .slice none 0 0 ∧ B.els = []) ∨
    ∃ arr cap, w.heap[(X.D s i).b]? = some (.cells arr B.ty (0, 0)) ∧ (X.D s i).v = .slice (some ⟨(X.D s i).b, (X.D s i).o, none⟩) B.els.length cap ∧ B.els.length ≤ cap ∧ cap ≤ maxLen ∧
      (X.D s i).o + cap * B.z ≤ arr.size ∧
      (∀ e j row c, B.els[e]? = some row → row[j]? = some c → ∃ u, arr[(X.D s i).o + e * B.z + j]? = some u ∧ u.oneCell' = true ∧ RV w A X c u ∧ (B.cl = true → PV w A c u)) ∧
      (B.fz = true → ¬ A (X.D s i).b) ∧ (B.fz = false → A (X.D s i).b ∧ (F.M (X.D s i).b ∨ F.w0.heap.size ≤ (X.D s i).b))
def Hd.real (d : Hd) : Prop := d.v ≠ .slice none 0 0
class Gls where
  G : Nat → Option V
variable [Gls]
def GOK (w : World) (A : Nat → Prop) : Prop := ∀ g v, Gls.G g = some v → PV w A v (.pointer (some ⟨g, 0, none⟩))
theorem GOK.mono {w w' : World} {A A' : Nat → Prop} (h : GOK w A) (hL : Later w A w' A') : GOK w' A' := fun g v hg => (h g v hg).mono hL
structure MOK (F : Fr) (w : World) (A : Nat → Prop) (X : Refs) (s i : Nat) (m : Mp) : Prop where
  hK : i < X.K s
  ob : ∃ es clk, w.heap[X.M s i]? = some (Obj.map es clk) ∧ MpOK es m
  own : A (X.M s i) ∧ (F.M (X.M s i) ∨ F.w0.heap.size ≤ X.M s i)
structure MInv (F : Fr) (w : World) (A : Nat → Prop) (X : Refs) (h : Hp) : Prop where
  mb : ∀ s, X.K s ≤ (h s).mps.length
  mp : ∀ s i m, mget h s i = some m → MOK F w A X s i m
  inj : ∀ s i m s' i' m', mget h s i = some m → mget h s' i' = some m' → X.M s i = X.M s' i' → s = s' ∧ i = i'
omit [Gls] in
theorem MInv.step {F : Fr} {w w' : World} {A A' : Nat → Prop} {X X' : Refs} {h h' : Hp} (hM : MInv F w A X h) (hh : ∀ s, (h' s).mps = (h s).mps) (hk : X'.K = X.K) (hx : X'.M = X.M)
    (hw : ∀ (b : Nat) (es : Array MapEntry) (clk : Nat), w.heap[b]? = some (Obj.map es clk) → w'.heap[b]? = some (Obj.map es clk)) (hA : ∀ (b : Nat) (es : Array MapEntry) (clk : Nat), w.heap[b]? = some (Obj.map es clk) → A b → A' b) : MInv F w' A' X' h' := by
  have e : ∀ s i, mget h' s i = mget h s i := fun s i => by unfold mget; rw [hh]
  refine ⟨fun s => by rw [hh, hk]; exact hM.mb s, fun s i m hg => ?_, fun s i m s' i' m' h1 h2 h3 => ?_⟩
  · rw [e] at hg
    have k := hM.mp s i m hg
    obtain ⟨es, clk, k1, k2⟩ := k.ob
    exact ⟨by rw [hk]; exact k.hK, ⟨es, clk, by rw [hx]; exact hw _ _ _ k1, k2⟩, by rw [hx]; exact ⟨hA _ _ _ k1 k.own.1, k.own.2⟩⟩
  · rw [e] at h1 h2; rw [hx] at h3; exact hM.inj s i m s' i' m' h1 h2 h3
structure Inv (F : Fr) (w : World) (A : Nat → Prop) (X : Refs) (h : Hp) : Prop where
  gl : GOK w A
  abd : ∀ b, A b → b < w.heap.size
  aold : ∀ b, b < F.w0.heap.size → A b → F.A0 b
  akeep : ∀ b, b < F.w0.heap.size → F.A0 b → ¬ F.M b → A b
  os : w.os = F.w0.os
  tape : w.tape = F.w0.tape
  output : w.output = F.w0.output
  size : F.w0.heap.size ≤ w.heap.size
  same : ∀ b, b < F.w0.heap.size → ¬ F.M b → w.heap[b]? = F.w0.heap[b]?
  xle : Xle F.X0 X
  nb : ∀ s, X.N s ≤ hnext h s
  mi : MInv F w A X h
  blk : ∀ s i B, hget h s i = some B → BOK F w A X s i B
  inj : ∀ s i B s' i' B', hget h s i = some B → hget h s' i' = some B' → (X.D s i).real → (X.D s' i').real → (X.D s i).b = (X.D s' i').b → s = s' ∧ i = i'
end Go.Sx
