/- What a related value looks like; new blocks; stores into owned blocks. No conditions. -/
import Derived.Test.YtbdphjgpjhlpmaaSxC
set_option linter.unusedSimpArgs false
set_option linter.unusedVariables false
namespace Go.Sx
open Go.RowKit

section inv
variable {w : World} {A : Nat → Prop} {X : Refs}

theorem RV.int_inv {k : IntKind} {n : Int} {u : Value} (h : RV w A X (.int k n) u) : u = .int k n := by
  cases h with | pure h => cases h; rfl
theorem RV.bool_inv {b : Bool} {u : Value} (h : RV w A X (.bool b) u) : u = .bool b := by
  cases h with | pure h => cases h; rfl
theorem RV.nil_inv {u : Value} (h : RV w A X .nil u) : u = .slice none 0 0 := by
  cases h with | pure h => cases h; rfl
theorem RV.nilp_inv {u : Value} (h : RV w A X .nilp u) : u = .pointer none := by
  cases h with | pure h => cases h; rfl
theorem RV.nilf_inv {u : Value} (h : RV w A X .nilf u) : u = .nilFunc := by
  cases h with | pure h => cases h; rfl
theorem RV.sl_inv {z : Nat} {els : List (List V)} {u : Value} (h : RV w A X (.sl z els) u) : PV w A (.sl z els) u := by
  cases h with | pure h => exact h
theorem RV.ip_inv {z : Nat} {els : List (List V)} {e j : Nat} {u : Value} (h : RV w A X (.ip z els e j) u) : PV w A (.ip z els e j) u := by
  cases h with | pure h => exact h
theorem RV.agg_inv {cs : List V} {u : Value} (h : RV w A X (.agg cs) u) : ∃ us : Array Value, u = .agg us ∧ us.size = cs.length ∧ ∀ i c, cs[i]? = some c → RV w A X c (us.getD i und) := by
  cases h with
  | pure h => cases h with | agg cs us hl h => exact ⟨us, rfl, hl, fun i c hc => .pure (h i c hc)⟩
  | agg cs us hl h => exact ⟨us, rfl, hl, h⟩
theorem RV.tup_inv {cs : List V} {u : Value} (h : RV w A X (.tup cs) u) : ∃ us : Array Value, u = .tuple us ∧ us.size = cs.length ∧ ∀ i c, cs[i]? = some c → RV w A X c (us.getD i und) := by
  cases h with
  | pure h => cases h with | tup cs us hl h => exact ⟨us, rfl, hl, fun i c hc => .pure (h i c hc)⟩
  | tup cs us hl h => exact ⟨us, rfl, hl, h⟩
theorem RV.fn_inv {f : Nat} {cs : List V} {u : Value} (h : RV w A X (.fn f cs) u) : ∃ us : Array Value, u = .func (.func f) #[] us ∧ us.size = cs.length ∧ ∀ i c, cs[i]? = some c → RV w A X c (us.getD i und) := by
  cases h with
  | pure h => cases h with | fn f cs us hl h => exact ⟨us, rfl, hl, fun i c hc => .pure (h i c hc)⟩
  | fn f cs us hl h => exact ⟨us, rfl, hl, h⟩
theorem RV.bsl_inv {s i n : Nat} {u : Value} (h : RV w A X (.bsl s i n) u) : ∃ a c, u = .slice a n c ∧ i < X.N s ∧ n ≤ (X.D s i).len ∧ (n = (X.D s i).len → Value.slice a n c = (X.D s i).v) := by
  cases h with
  | pure h => cases h
  | bsl _ _ _ a c hN hn hv => exact ⟨a, c, rfl, hN, hn, hv⟩
theorem RV.bptr_inv {s i n e j : Nat} {u : Value} (h : RV w A X (.bptr s i n e j) u) : ∃ a, u = .pointer (some a) ∧ i < X.N s ∧ n ≤ (X.D s i).len ∧ (n = (X.D s i).len → a = ⟨(X.D s i).b, (X.D s i).o + e * (X.D s i).z + j, none⟩) := by
  cases h with
  | pure h => cases h
  | bptr _ _ _ _ _ a hN hn hv => exact ⟨a, rfl, hN, hn, hv⟩
theorem RV.osl_inv {s i n off len cap : Nat} {u : Value} (h : RV w A X (.osl s i n off len cap) u) : ∃ a c, u = .slice (some a) len c ∧ cap ≤ c ∧ i < X.N s ∧ n ≤ (X.D s i).len ∧ (n = (X.D s i).len → a = ⟨(X.D s i).b, (X.D s i).o + off * (X.D s i).z, none⟩ ∧ off + c ≤ (X.D s i).cap) := by
  cases h with
  | pure h => cases h
  | osl _ _ _ _ _ _ a c hcc hN hn hv => exact ⟨a, c, rfl, hcc, hN, hn, hv⟩

/-- A slice's header: its length. -/
theorem RV.len_inv {x : V} {n : Nat} {u : Value} (h : RV w A X x u) (hx : x.len = some n) : ∃ a c, u = .slice a n c := by
  cases x <;> simp only [V.len, Option.some.injEq, reduceCtorEq] at hx
  · subst hx; exact ⟨none, 0, h.nil_inv⟩
  · subst hx
    have h' := h.sl_inv
    cases h' with
    | sl0 z a cap => exact ⟨a, cap, rfl⟩
    | sl z els b off cap u hcap => exact ⟨_, cap, rfl⟩
  · subst hx; obtain ⟨a, c, rfl, _⟩ := h.bsl_inv; exact ⟨a, c, rfl⟩
  · subst hx; obtain ⟨a, c, rfl, _⟩ := h.osl_inv; exact ⟨_, _, rfl⟩

theorem PV.one {x : V} {u : Value} (h : PV w A x u) (hx : x.cell1 = true) : u.oneCell' = true := by
  cases h <;> simp_all [V.cell1, Value.oneCell']

theorem RV.one {x : V} {u : Value} (h : RV w A X x u) (hx : x.cell1 = true) : u.oneCell' = true := by
  cases h with
  | pure h => exact h.one hx
  | agg => simp [V.cell1] at hx
  | tup => simp [V.cell1] at hx
  | fn => rfl
  | bsl => rfl
  | bptr => rfl
  | osl => rfl

theorem PV.of_refFree1 {x : V} {u : Value} (h : RV w A X x u) (hx : x.refFree1 = true) : PV w A x u := by
  cases h with
  | pure h => exact h
  | agg => simp [V.refFree1] at hx
  | tup => simp [V.refFree1] at hx
  | fn f cs us hl h =>
    cases cs with
    | nil => exact .fn f [] us hl (by simp)
    | cons c cs => simp [V.refFree1] at hx
  | bsl => simp [V.refFree1] at hx
  | bptr => simp [V.refFree1] at hx
  | osl => simp [V.refFree1] at hx

theorem PV.of_refFree {x : V} {u : Value} (h : RV w A X x u) (hx : x.refFree = true) : PV w A x u := by
  cases h with
  | pure h => exact h
  | agg cs us hl h =>
    simp only [V.refFree, List.all_eq_true] at hx
    exact .agg cs us hl fun i c hc => .of_refFree1 (h i c hc) (hx c (List.mem_of_getElem? hc))
  | tup cs us hl h =>
    simp only [V.refFree, List.all_eq_true] at hx
    exact .tup cs us hl fun i c hc => .of_refFree1 (h i c hc) (hx c (List.mem_of_getElem? hc))
  | fn f cs us hl h =>
    simp only [V.refFree, List.all_eq_true] at hx
    exact .fn f cs us hl fun i c hc => .of_refFree1 (h i c hc) (hx c (List.mem_of_getElem? hc))
  | bsl => simp [V.refFree, V.refFree1] at hx
  | bptr => simp [V.refFree, V.refFree1] at hx
  | osl => simp [V.refFree, V.refFree1] at hx

/-- The cells of a value. -/
def CellsOK (w : World) (A : Nat → Prop) (X : Refs) (cs : List V) (us : Array Value) : Prop :=
  us.size = cs.length ∧ ∀ (j : Nat) (c : V), cs[j]? = some c → ∃ u, us[j]? = some u ∧ u.oneCell' = true ∧ RV w A X c u

theorem cells_of_one {u : Value} (h : u.oneCell' = true) : u.cells = #[u] := by
  cases u <;> simp_all [Value.cells, Value.oneCell']

theorem RV.cells {x : V} {u : Value} (h : RV w A X x u) (hx : x.cells.all V.cell1 = true) : CellsOK w A X x.cells u.cells := by
  simp only [List.all_eq_true] at hx
  by_cases ha : ∃ cs, x = .agg cs
  · obtain ⟨cs, rfl⟩ := ha
    obtain ⟨us, rfl, hl, hc⟩ := h.agg_inv
    simp only [V.cells, Value.cells] at hx ⊢
    refine ⟨hl, fun j c hj => ?_⟩
    have hlt : j < us.size := by rw [hl]; exact (List.getElem?_eq_some_iff.1 hj).1
    have := hc j c hj
    rw [Array.getD_eq_getD_getElem?, Array.getElem?_eq_getElem hlt, Option.getD_some] at this
    exact ⟨us[j], Array.getElem?_eq_getElem hlt, this.one (hx c (List.mem_of_getElem? hj)), this⟩
  · have hxc : x.cells = [x] := by cases x <;> first | rfl | exact absurd ⟨_, rfl⟩ ha
    rw [hxc] at hx ⊢
    have h1 := h.one (hx x (by simp))
    rw [cells_of_one h1]
    refine ⟨rfl, fun j c hj => ?_⟩
    cases j with
    | zero => simp at hj; subst hj; exact ⟨u, by simp, h1, h⟩
    | succ j => simp at hj

end inv

/-- The address arithmetic. -/
theorem addr_add (b o n : Nat) : (⟨b, o, none⟩ : Addr).add n = ⟨b, o + n, none⟩ := by
  unfold Addr.add; split <;> simp_all

section alloc
variable {F : Fr} {w : World} {A : Nat → Prop} {X : Refs} {h : Hp}

/-- The references behind a new block at a site. -/
def refsNew (w : World) (X : Refs) (h : Hp) (s : Nat) (B : Blk) (cap : Nat) : Refs :=
  { D := fun s' i' => if s' = s ∧ i' = hnext h s then { b := w.heap.size, z := B.z, len := B.els.length, v := .slice (some ⟨w.heap.size, 0, none⟩) B.els.length cap } else X.D s' i',
    N := fun s' => if s' = s then hnext h s + 1 else X.N s' }

theorem Inv.xle_new (hI : Inv F w A X h) (s : Nat) (B : Blk) (cap : Nat) : Xle X (refsNew w X h s B cap) := by
  intro s' i' hi
  have := hI.nb s'
  constructor
  · simp only [refsNew]; split
    · rename_i hs; subst hs; omega
    · exact hi
  · left
    simp only [refsNew]
    rw [if_neg]
    rintro ⟨rfl, rfl⟩
    omega

theorem Inv.later_alloc (_hI : Inv F w A X h) (o : Obj) : Later w A (w.alloc o) (fun b => A b ∨ b = w.heap.size) :=
  ⟨by simp, fun b hb hA => ⟨Below.heap_alloc w o b hb, fun hh => by rcases hh with hh | hh; exact hA hh; omega⟩⟩

theorem Inv.alloc (hI : Inv F w A X h) (s : Nat) (B : Blk) (arr : Array Value) (cap : Nat) (hfz : B.fz = false) (hcap : B.els.length ≤ cap) (hm : cap ≤ maxLen) (hrows : ∀ row ∈ B.els, row.length = B.z)
    (hsz : arr.size = cap * B.z)
    (hc : ∀ e j row c, B.els[e]? = some row → row[j]? = some c → ∃ u, arr[e * B.z + j]? = some u ∧ u.oneCell' = true ∧ RV w A X c u ∧ (B.cl = true → PV w A c u)) :
    Inv F (w.alloc (.cells arr B.ty)) (fun b => A b ∨ b = w.heap.size) (refsNew w X h s B cap) (hpush h s B) := by
  have hL := hI.later_alloc (.cells arr B.ty)
  have hX := hI.xle_new s B cap
  refine { abd := ?_, aold := ?_, akeep := ?_, os := hI.os, tape := hI.tape, output := hI.output, size := ?_, same := ?_, xle := hI.xle.trans hX, nb := ?_, blk := ?_, inj := ?_ }
  · rintro b (hb | rfl)
    · have := hI.abd b hb; simp; omega
    · simp
  · rintro b hb (h1 | rfl)
    · exact hI.aold b hb h1
    · have := hI.size; omega
  · intro b hb h1 h2; exact .inl (hI.akeep b hb h1 h2)
  · have := hI.size; simp; omega
  · intro b hb hM
    have := hI.size
    rw [Below.heap_alloc w _ b (by omega)]
    exact hI.same b hb hM
  · intro s'
    rw [hnext_push]
    simp only [refsNew]
    have := hI.nb s'
    split
    · rename_i hs; subst hs; omega
    · omega
  · intro s' i' B' hB'
    by_cases hnew : s' = s ∧ i' = hnext h s
    · obtain ⟨rfl, rfl⟩ := hnew
      rw [hget_push_new] at hB'
      obtain rfl := Option.some.inj hB'
      have hD : (refsNew w X h s' B cap).D s' (hnext h s') = { b := w.heap.size, z := B.z, len := B.els.length, v := .slice (some ⟨w.heap.size, 0, none⟩) B.els.length cap } := by simp [refsNew]
      refine { hN := by simp [refsNew], hz := by rw [hD], hlen := by rw [hD], rows := hrows, mem := .inr ⟨arr, cap, ?_, ?_, hcap, hm, by rw [hD, hsz, Nat.zero_add]; exact Nat.le_refl _, ?_, ?_, ?_⟩ }
      · rw [hD]; exact heap_alloc_new w _
      · rw [hD]
      · intro e j row c he hj
        obtain ⟨u, h1, h2, h3, h4⟩ := hc e j row c he hj
        exact ⟨u, by rw [hD, Nat.zero_add]; exact h1, h2, h3.mono hL hX, fun hcl => (h4 hcl).mono hL⟩
      · rw [hfz]; simp
      · intro _; rw [hD]; exact ⟨.inr rfl, .inr hI.size⟩
    · rw [hget_push_old h s s' i' B (fun e hi => hnew ⟨e, hi⟩)] at hB'
      have ho := hI.blk s' i' B' hB'
      have hD : (refsNew w X h s B cap).D s' i' = X.D s' i' := by simp only [refsNew]; rw [if_neg hnew]
      refine { hN := (hX s' i' ho.hN).1, hz := by rw [hD]; exact ho.hz, hlen := by rw [hD]; exact ho.hlen, rows := ho.rows, mem := ?_ }
      rw [hD]
      rcases ho.mem with hm' | ⟨arr', cap', h1, h2, h3, h4, h5, h6, h7, h8⟩
      · exact .inl hm'
      · have hlt : (X.D s' i').b < w.heap.size := (Array.getElem?_eq_some_iff.1 h1).1
        refine .inr ⟨arr', cap', ?_, h2, h3, h4, h5, ?_, ?_, ?_⟩
        · rw [Below.heap_alloc w _ _ hlt]; exact h1
        · intro e j row c he hj
          obtain ⟨u, g1, g2, g3, g4⟩ := h6 e j row c he hj
          exact ⟨u, g1, g2, g3.mono hL hX, fun hcl => (g4 hcl).mono hL⟩
        · rintro hf (hb | hb)
          · exact h7 hf hb
          · omega
        · intro hf; exact ⟨.inl (h8 hf).1, (h8 hf).2⟩
  · intro s1 i1 B1 s2 i2 B2 hb1 hb2 hr1 hr2 heq
    have key : ∀ s' i' B', hget (hpush h s B) s' i' = some B' → ((refsNew w X h s B cap).D s' i').real → (s' = s ∧ i' = hnext h s ∧ ((refsNew w X h s B cap).D s' i').b = w.heap.size) ∨ (hget h s' i' = some B' ∧ (refsNew w X h s B cap).D s' i' = X.D s' i' ∧ (X.D s' i').b < w.heap.size) := by
      intro s' i' B' hB' hr
      by_cases hnew : s' = s ∧ i' = hnext h s
      · left; exact ⟨hnew.1, hnew.2, by simp [refsNew, hnew]⟩
      · right
        rw [hget_push_old h s s' i' B (fun e hi => hnew ⟨e, hi⟩)] at hB'
        have ho := hI.blk s' i' B' hB'
        have hD : (refsNew w X h s B cap).D s' i' = X.D s' i' := by simp only [refsNew]; rw [if_neg hnew]
        refine ⟨hB', hD, ?_⟩
        rw [hD] at hr
        rcases ho.mem with hm' | ⟨arr', cap', h1, _⟩
        · exact absurd hm'.1 hr
        · exact (Array.getElem?_eq_some_iff.1 h1).1
    rcases key s1 i1 B1 hb1 hr1 with ⟨e1, e1', e1''⟩ | ⟨g1, d1, l1⟩ <;> rcases key s2 i2 B2 hb2 hr2 with ⟨e2, e2', e2''⟩ | ⟨g2, d2, l2⟩
    · exact ⟨e1.trans e2.symm, e1'.trans e2'.symm⟩
    · rw [e1'', d2] at heq; omega
    · rw [e2'', d1] at heq; omega
    · rw [d1, d2] at heq
      rw [d1] at hr1; rw [d2] at hr2
      exact hI.inj s1 i1 B1 s2 i2 B2 g1 g2 hr1 hr2 heq

end alloc
end Go.Sx
