/- A part of a proof; no conditions. -/
import Derived.Test.YtnpdjaikmdagmaaGreatDoorP00
set_option linter.unusedSimpArgs false
set_option linter.unusedVariables false
set_option linter.unusedSectionVars false
section
/- What a related value looks like; new blocks; stores into owned blocks. No conditions. -/
namespace Go.Sx
open Go.RowKit
variable [Gls]

section inv
variable {w : World} {A : Nat → Prop} {X : Refs}

omit [Gls] in
theorem RV.int_inv {k : IntKind} {n : Int} {u : Value} (h : RV w A X (.int k n) u) : u = .int k n := by
  cases h with | pure h => cases h; rfl
omit [Gls] in
theorem RV.bool_inv {b : Bool} {u : Value} (h : RV w A X (.bool b) u) : u = .bool b := by
  cases h with | pure h => cases h; rfl
omit [Gls] in
theorem RV.anyb_inv {u : Value} (h : RV w A X .anyb u) : ∃ b, u = .bool b := by
  cases h with | pure h => cases h; exact ⟨_, rfl⟩
omit [Gls] in
theorem RV.nil_inv {u : Value} (h : RV w A X .nil u) : u = .slice none 0 0 := by
  cases h with | pure h => cases h; rfl
omit [Gls] in
theorem RV.nilp_inv {u : Value} (h : RV w A X .nilp u) : u = .pointer none := by
  cases h with | pure h => cases h; rfl
omit [Gls] in
theorem RV.nilf_inv {u : Value} (h : RV w A X .nilf u) : u = .nilFunc := by
  cases h with | pure h => cases h; rfl
omit [Gls] in
theorem RV.sl_inv {z : Nat} {els : List (List V)} {u : Value} (h : RV w A X (.sl z els) u) : PV w A (.sl z els) u := by
  cases h with | pure h => exact h
omit [Gls] in
theorem RV.ip_inv {z : Nat} {els : List (List V)} {e j : Nat} {u : Value} (h : RV w A X (.ip z els e j) u) : PV w A (.ip z els e j) u := by
  cases h with | pure h => exact h
omit [Gls] in
theorem RV.agg_inv {cs : List V} {u : Value} (h : RV w A X (.agg cs) u) : ∃ us : Array Value, u = .agg us ∧ us.size = cs.length ∧ ∀ i c, cs[i]? = some c → RV w A X c (us.getD i und) := by
  cases h with
  | pure h => cases h with | agg cs us hl h => exact ⟨us, rfl, hl, fun i c hc => .pure (h i c hc)⟩
  | agg cs us hl h => exact ⟨us, rfl, hl, h⟩
omit [Gls] in
theorem RV.tup_inv {cs : List V} {u : Value} (h : RV w A X (.tup cs) u) : ∃ us : Array Value, u = .tuple us ∧ us.size = cs.length ∧ ∀ i c, cs[i]? = some c → RV w A X c (us.getD i und) := by
  cases h with
  | pure h => cases h with | tup cs us hl h => exact ⟨us, rfl, hl, fun i c hc => .pure (h i c hc)⟩
  | tup cs us hl h => exact ⟨us, rfl, hl, h⟩
omit [Gls] in
theorem RV.fn_inv {f : Nat} {cs : List V} {u : Value} (h : RV w A X (.fn f cs) u) : ∃ us : Array Value, u = .func (.func f) #[] us ∧ us.size = cs.length ∧ ∀ i c, cs[i]? = some c → RV w A X c (us.getD i und) := by
  cases h with
  | pure h => cases h with | fn f cs us hl h => exact ⟨us, rfl, hl, fun i c hc => .pure (h i c hc)⟩
  | fn f cs us hl h => exact ⟨us, rfl, hl, h⟩
omit [Gls] in
theorem RV.bsl_inv {s i n : Nat} {u : Value} (h : RV w A X (.bsl s i n) u) : ∃ a c, u = .slice a n c ∧ i < X.N s ∧ n ≤ (X.D s i).len ∧ (n = (X.D s i).len → Value.slice a n c = (X.D s i).v) := by
  cases h with
  | pure h => cases h
  | bsl _ _ _ a c hN hn hv => exact ⟨a, c, rfl, hN, hn, hv⟩
omit [Gls] in
theorem RV.bptr_inv {s i n e j : Nat} {u : Value} (h : RV w A X (.bptr s i n e j) u) : ∃ a, u = .pointer (some a) ∧ i < X.N s ∧ n ≤ (X.D s i).len ∧ (n = (X.D s i).len → a = ⟨(X.D s i).b, (X.D s i).o + e * (X.D s i).z + j, none⟩) := by
  cases h with
  | pure h => cases h
  | bptr _ _ _ _ _ a hN hn hv => exact ⟨a, rfl, hN, hn, hv⟩
omit [Gls] in
theorem RV.osl_inv {s i n off len cap : Nat} {u : Value} (h : RV w A X (.osl s i n off len cap) u) : ∃ a c, u = .slice (some a) len c ∧ cap ≤ c ∧ i < X.N s ∧ n ≤ (X.D s i).len ∧ (n = (X.D s i).len → a = ⟨(X.D s i).b, (X.D s i).o + off * (X.D s i).z, none⟩ ∧ off + c ≤ (X.D s i).cap) := by
  cases h with
  | pure h => cases h
  | osl _ _ _ _ _ _ a c hcc hN hn hv => exact ⟨a, c, rfl, hcc, hN, hn, hv⟩

omit [Gls] in
theorem RV.emp_inv {u : Value} (h : RV w A X .emp u) : ∃ a, u = .slice (some a) 0 0 := by
  cases h with
  | pure h => cases h with
    | emp a => exact ⟨a, rfl⟩
omit [Gls] in
/-- A slice's header: its length. -/
theorem RV.len_inv {x : V} {n : Nat} {u : Value} (h : RV w A X x u) (hx : x.len = some n) : ∃ a c, u = .slice a n c := by
  cases x <;> simp only [V.len, Option.some.injEq, reduceCtorEq] at hx
  · subst hx; exact ⟨none, 0, h.nil_inv⟩
  · subst hx
    have h' := h.sl_inv
    cases h' with
    | sl0 z a cap => exact ⟨a, cap, rfl⟩
    | sl z els b off cap u hcap => exact ⟨_, cap, rfl⟩
  · subst hx; obtain ⟨a, c, rfl, _⟩ := h.bsl_inv; exact ⟨a, c, rfl⟩
  · subst hx; obtain ⟨a, c, rfl, _⟩ := h.osl_inv; exact ⟨_, _, rfl⟩
  · subst hx; obtain ⟨a, rfl⟩ := h.emp_inv; exact ⟨_, _, rfl⟩

omit [Gls] in
theorem PV.one {x : V} {u : Value} (h : PV w A x u) (hx : x.cell1 = true) : u.oneCell' = true := by
  cases h <;> simp_all [V.cell1, Value.oneCell']

omit [Gls] in
theorem RV.one {x : V} {u : Value} (h : RV w A X x u) (hx : x.cell1 = true) : u.oneCell' = true := by
  cases h with
  | pure h => exact h.one hx
  | agg => simp [V.cell1] at hx
  | tup => simp [V.cell1] at hx
  | fn => rfl
  | bsl => rfl
  | bptr => rfl
  | osl => rfl

omit [Gls] in
theorem PV.of_refFree1 {x : V} {u : Value} (h : RV w A X x u) (hx : x.refFree1 = true) : PV w A x u := by
  cases h with
  | pure h => exact h
  | agg => simp [V.refFree1] at hx
  | tup => simp [V.refFree1] at hx
  | fn f cs us hl h =>
    cases cs with
    | nil => exact .fn f [] us hl (by simp)
    | cons c cs => simp [V.refFree1] at hx
  | bsl => simp [V.refFree1] at hx
  | bptr => simp [V.refFree1] at hx
  | osl => simp [V.refFree1] at hx

omit [Gls] in
theorem PV.of_refFree {x : V} {u : Value} (h : RV w A X x u) (hx : x.refFree = true) : PV w A x u := by
  cases h with
  | pure h => exact h
  | agg cs us hl h =>
    simp only [V.refFree, List.all_eq_true] at hx
    exact .agg cs us hl fun i c hc => .of_refFree1 (h i c hc) (hx c (List.mem_of_getElem? hc))
  | tup cs us hl h =>
    simp only [V.refFree, List.all_eq_true] at hx
    exact .tup cs us hl fun i c hc => .of_refFree1 (h i c hc) (hx c (List.mem_of_getElem? hc))
  | fn f cs us hl h =>
    simp only [V.refFree, List.all_eq_true] at hx
    exact .fn f cs us hl fun i c hc => .of_refFree1 (h i c hc) (hx c (List.mem_of_getElem? hc))
  | bsl => simp [V.refFree, V.refFree1] at hx
  | bptr => simp [V.refFree, V.refFree1] at hx
  | osl => simp [V.refFree, V.refFree1] at hx

/-- The cells of a value. -/
def CellsOK (w : World) (A : Nat → Prop) (X : Refs) (cs : List V) (us : Array Value) : Prop :=
  us.size = cs.length ∧ ∀ (j : Nat) (c : V), cs[j]? = some c → ∃ u, us[j]? = some u ∧ u.oneCell' = true ∧ RV w A X c u

omit [Gls] in
theorem cells_of_one {u : Value} (h : u.oneCell' = true) : u.cells = #[u] := by
  cases u <;> simp_all [Value.cells, Value.oneCell']

omit [Gls] in
theorem RV.cells {x : V} {u : Value} (h : RV w A X x u) (hx : x.cells.all V.cell1 = true) : CellsOK w A X x.cells u.cells := by
  simp only [List.all_eq_true] at hx
  by_cases ha : ∃ cs, x = .agg cs
  · obtain ⟨cs, rfl⟩ := ha
    obtain ⟨us, rfl, hl, hc⟩ := h.agg_inv
    simp only [V.cells, Value.cells] at hx ⊢
    refine ⟨hl, fun j c hj => ?_⟩
    have hlt : j < us.size := by rw [hl]; exact (List.getElem?_eq_some_iff.1 hj).1
    have := hc j c hj
    rw [Array.getD_eq_getD_getElem?, Array.getElem?_eq_getElem hlt, Option.getD_some] at this
    exact ⟨us[j], Array.getElem?_eq_getElem hlt, this.one (hx c (List.mem_of_getElem? hj)), this⟩
  · have hxc : x.cells = [x] := by cases x <;> first | rfl | exact absurd ⟨_, rfl⟩ ha
    rw [hxc] at hx ⊢
    have h1 := h.one (hx x (by simp))
    rw [cells_of_one h1]
    refine ⟨rfl, fun j c hj => ?_⟩
    cases j with
    | zero => simp at hj; subst hj; exact ⟨u, by simp, h1, h⟩
    | succ j => simp at hj

end inv

omit [Gls] in
/-- The address arithmetic. -/
theorem addr_add (b o n : Nat) : (⟨b, o, none⟩ : Addr).add n = ⟨b, o + n, none⟩ := by
  unfold Addr.add; split <;> simp_all

section alloc
variable {F : Fr} {w : World} {A : Nat → Prop} {X : Refs} {h : Hp}

/-- The references behind a new block at a site. -/
def refsNew (w : World) (X : Refs) (h : Hp) (s : Nat) (B : Blk) (cap : Nat) : Refs :=
  { D := fun s' i' => if s' = s ∧ i' = hnext h s then { b := w.heap.size, z := B.z, len := B.els.length, v := .slice (some ⟨w.heap.size, 0, none⟩) B.els.length cap } else X.D s' i',
    N := fun s' => if s' = s then hnext h s + 1 else X.N s' }

theorem Inv.xle_new (hI : Inv F w A X h) (s : Nat) (B : Blk) (cap : Nat) : Xle X (refsNew w X h s B cap) := by
  intro s' i' hi
  have := hI.nb s'
  constructor
  · simp only [refsNew]; split
    · rename_i hs; subst hs; omega
    · exact hi
  · left
    simp only [refsNew]
    rw [if_neg]
    rintro ⟨rfl, rfl⟩
    omega

theorem Inv.later_alloc (_hI : Inv F w A X h) (o : Obj) : Later w A (w.alloc o) (fun b => A b ∨ b = w.heap.size) :=
  ⟨by simp, fun b hb hA => ⟨Below.heap_alloc w o b hb, fun hh => by rcases hh with hh | hh; exact hA hh; omega⟩⟩

theorem Inv.alloc (hI : Inv F w A X h) (s : Nat) (B : Blk) (arr : Array Value) (cap : Nat) (hfz : B.fz = false) (hcap : B.els.length ≤ cap) (hm : cap ≤ maxLen) (hrows : ∀ row ∈ B.els, row.length = B.z)
    (hsz : arr.size = cap * B.z)
    (hc : ∀ e j row c, B.els[e]? = some row → row[j]? = some c → ∃ u, arr[e * B.z + j]? = some u ∧ u.oneCell' = true ∧ RV w A X c u ∧ (B.cl = true → PV w A c u)) :
    Inv F (w.alloc (.cells arr B.ty)) (fun b => A b ∨ b = w.heap.size) (refsNew w X h s B cap) (hpush h s B) := by
  have hL := hI.later_alloc (.cells arr B.ty)
  have hX := hI.xle_new s B cap
  refine { gl := hI.gl.mono hL, abd := ?_, aold := ?_, akeep := ?_, os := hI.os, tape := hI.tape, output := hI.output, size := ?_, same := ?_, xle := hI.xle.trans hX, nb := ?_, blk := ?_, inj := ?_ }
  · rintro b (hb | rfl)
    · have := hI.abd b hb; simp; omega
    · simp
  · rintro b hb (h1 | rfl)
    · exact hI.aold b hb h1
    · have := hI.size; omega
  · intro b hb h1 h2; exact .inl (hI.akeep b hb h1 h2)
  · have := hI.size; simp; omega
  · intro b hb hM
    have := hI.size
    rw [Below.heap_alloc w _ b (by omega)]
    exact hI.same b hb hM
  · intro s'
    rw [hnext_push]
    simp only [refsNew]
    have := hI.nb s'
    split
    · rename_i hs; subst hs; omega
    · omega
  · intro s' i' B' hB'
    by_cases hnew : s' = s ∧ i' = hnext h s
    · obtain ⟨rfl, rfl⟩ := hnew
      rw [hget_push_new] at hB'
      obtain rfl := Option.some.inj hB'
      have hD : (refsNew w X h s' B cap).D s' (hnext h s') = { b := w.heap.size, z := B.z, len := B.els.length, v := .slice (some ⟨w.heap.size, 0, none⟩) B.els.length cap } := by simp [refsNew]
      refine { hN := by simp [refsNew], hz := by rw [hD], hlen := by rw [hD], rows := hrows, mem := .inr ⟨arr, cap, ?_, ?_, hcap, hm, by rw [hD, hsz, Nat.zero_add]; exact Nat.le_refl _, ?_, ?_, ?_⟩ }
      · rw [hD]; exact heap_alloc_new w _
      · rw [hD]
      · intro e j row c he hj
        obtain ⟨u, h1, h2, h3, h4⟩ := hc e j row c he hj
        exact ⟨u, by rw [hD, Nat.zero_add]; exact h1, h2, h3.mono hL hX, fun hcl => (h4 hcl).mono hL⟩
      · rw [hfz]; simp
      · intro _; rw [hD]; exact ⟨.inr rfl, .inr hI.size⟩
    · rw [hget_push_old h s s' i' B (fun e hi => hnew ⟨e, hi⟩)] at hB'
      have ho := hI.blk s' i' B' hB'
      have hD : (refsNew w X h s B cap).D s' i' = X.D s' i' := by simp only [refsNew]; rw [if_neg hnew]
      refine { hN := (hX s' i' ho.hN).1, hz := by rw [hD]; exact ho.hz, hlen := by rw [hD]; exact ho.hlen, rows := ho.rows, mem := ?_ }
      rw [hD]
      rcases ho.mem with hm' | ⟨arr', cap', h1, h2, h3, h4, h5, h6, h7, h8⟩
      · exact .inl hm'
      · have hlt : (X.D s' i').b < w.heap.size := (Array.getElem?_eq_some_iff.1 h1).1
        refine .inr ⟨arr', cap', ?_, h2, h3, h4, h5, ?_, ?_, ?_⟩
        · rw [Below.heap_alloc w _ _ hlt]; exact h1
        · intro e j row c he hj
          obtain ⟨u, g1, g2, g3, g4⟩ := h6 e j row c he hj
          exact ⟨u, g1, g2, g3.mono hL hX, fun hcl => (g4 hcl).mono hL⟩
        · rintro hf (hb | hb)
          · exact h7 hf hb
          · omega
        · intro hf; exact ⟨.inl (h8 hf).1, (h8 hf).2⟩
  · intro s1 i1 B1 s2 i2 B2 hb1 hb2 hr1 hr2 heq
    have key : ∀ s' i' B', hget (hpush h s B) s' i' = some B' → ((refsNew w X h s B cap).D s' i').real → (s' = s ∧ i' = hnext h s ∧ ((refsNew w X h s B cap).D s' i').b = w.heap.size) ∨ (hget h s' i' = some B' ∧ (refsNew w X h s B cap).D s' i' = X.D s' i' ∧ (X.D s' i').b < w.heap.size) := by
      intro s' i' B' hB' hr
      by_cases hnew : s' = s ∧ i' = hnext h s
      · left; exact ⟨hnew.1, hnew.2, by simp [refsNew, hnew]⟩
      · right
        rw [hget_push_old h s s' i' B (fun e hi => hnew ⟨e, hi⟩)] at hB'
        have ho := hI.blk s' i' B' hB'
        have hD : (refsNew w X h s B cap).D s' i' = X.D s' i' := by simp only [refsNew]; rw [if_neg hnew]
        refine ⟨hB', hD, ?_⟩
        rw [hD] at hr
        rcases ho.mem with hm' | ⟨arr', cap', h1, _⟩
        · exact absurd hm'.1 hr
        · exact (Array.getElem?_eq_some_iff.1 h1).1
    rcases key s1 i1 B1 hb1 hr1 with ⟨e1, e1', e1''⟩ | ⟨g1, d1, l1⟩ <;> rcases key s2 i2 B2 hb2 hr2 with ⟨e2, e2', e2''⟩ | ⟨g2, d2, l2⟩
    · exact ⟨e1.trans e2.symm, e1'.trans e2'.symm⟩
    · rw [e1'', d2] at heq; omega
    · rw [e2'', d1] at heq; omega
    · rw [d1, d2] at heq
      rw [d1] at hr1; rw [d2] at hr2
      exact hI.inj s1 i1 B1 s2 i2 B2 g1 g2 hr1 hr2 heq

end alloc
end Go.Sx
end
section
/- Stores into owned blocks, and appends to them. No conditions. -/
namespace Go.Sx
open Go.RowKit
variable [Gls]

omit [Gls] in
theorem splice_get (row cs : List V) (j k : Nat) (hj : j + cs.length ≤ row.length) :
    (splice row j cs)[k]? = if k < j then row[k]? else if k < j + cs.length then cs[k - j]? else row[k]? := by
  unfold splice
  rw [List.append_assoc, List.getElem?_append, List.length_take]
  have hm : min j row.length = j := by omega
  rw [hm]
  by_cases h1 : k < j
  · simp only [h1, if_true]; rw [List.getElem?_take]; simp [h1]
  · simp only [h1, if_false]
    rw [List.getElem?_append]
    by_cases h2 : k < j + cs.length
    · have : k - j < cs.length := by omega
      simp [h2, this]
    · have : ¬ k - j < cs.length := by omega
      simp only [h2, this, if_false]
      rw [List.getElem?_drop]
      congr 1; omega

omit [Gls] in
theorem splice_length (row cs : List V) (j : Nat) (hj : j + cs.length ≤ row.length) : (splice row j cs).length = row.length := by
  simp [splice]; omega

omit [Gls] in
theorem flat_lt {e e' z j j' m : Nat} (hne : e' ≠ e) (hj : j + m ≤ z) (hj' : j' < z) : e' * z + j' < e * z + j ∨ e * z + j + m ≤ e' * z + j' := by
  rcases Nat.lt_or_gt_of_ne hne with h | h
  · left
    have : (e' + 1) * z ≤ e * z := Nat.mul_le_mul_right z h
    rw [Nat.add_mul] at this; omega
  · right
    have : (e + 1) * z ≤ e' * z := Nat.mul_le_mul_right z h
    rw [Nat.add_mul] at this; omega

omit [Gls] in
theorem seg_get (l vs : List Value) (o k : Nat) (ho : o + vs.length ≤ l.length) :
    (l.take o ++ vs ++ l.drop (o + vs.length))[k]? = if k < o then l[k]? else if k < o + vs.length then vs[k - o]? else l[k]? := by
  rw [List.append_assoc, List.getElem?_append, List.length_take]
  have hm : min o l.length = o := by omega
  rw [hm]
  by_cases h1 : k < o
  · simp only [h1, if_true]; rw [List.getElem?_take]; simp [h1]
  · simp only [h1, if_false]
    rw [List.getElem?_append]
    by_cases h2 : k < o + vs.length
    · have : k - o < vs.length := by omega
      simp [h2, this]
    · have : ¬ k - o < vs.length := by omega
      simp only [h2, this, if_false]
      rw [List.getElem?_drop]
      congr 1; omega

section
variable {F : Fr} {w : World} {A : Nat → Prop} {X : Refs} {h : Hp}

/-- One owned block is another one now: all else is kept. -/
theorem Inv.turn (hI : Inv F w A X h) {s i : Nat} {B B' : Blk} (hB : hget h s i = some B) {w' : World} (hsz : w'.heap.size = w.heap.size) (hos : w'.os = w.os) (htp : w'.tape = w.tape) (hout : w'.output = w.output)
    (hfz : B.fz = false) (hreal : (X.D s i).real)
    (hoth : ∀ b, b ≠ (X.D s i).b → w'.heap[b]? = w.heap[b]?)
    (hok : Later w A w' A → BOK F w' A X s i B') : Later w A w' A ∧ Inv F w' A X (hset h s i B') := by
  have hb := hI.blk s i B hB
  have hown : A (X.D s i).b ∧ (F.M (X.D s i).b ∨ F.w0.heap.size ≤ (X.D s i).b) := by
    rcases hb.mem with hm | ⟨arr, cap, _, _, _, _, _, _, _, h8⟩
    · exact absurd hm.1 hreal
    · exact h8 hfz
  have hL : Later w A w' A := ⟨by omega, fun b hlt hA => ⟨hoth b (fun e => hA (e ▸ hown.1)), hA⟩⟩
  refine ⟨hL, { gl := hI.gl.mono hL, abd := ?_, aold := hI.aold, akeep := hI.akeep, os := hos.trans hI.os, tape := htp.trans hI.tape, output := hout.trans hI.output, size := by have := hI.size; omega, same := ?_, xle := hI.xle, nb := fun s' => by rw [hnext_set]; exact hI.nb s', blk := ?_, inj := ?_ }⟩
  · intro b hA; have := hI.abd b hA; omega
  · intro b hlt hM
    rw [hoth b (fun e => ?_)]
    · exact hI.same b hlt hM
    · rcases hown.2 with h1 | h1
      · exact hM (e ▸ h1)
      · omega
  · intro s' i' B1 hB1
    by_cases hsi : s' = s ∧ i' = i
    · obtain ⟨rfl, rfl⟩ := hsi
      rw [hget_set_same hB] at hB1
      obtain rfl := Option.some.inj hB1
      exact hok hL
    · rw [hget_set_other h B' hsi (hget_base hB)] at hB1
      have ho := hI.blk s' i' B1 hB1
      refine { hN := ho.hN, hz := ho.hz, hlen := ho.hlen, rows := ho.rows, mem := ?_ }
      rcases ho.mem with hm | ⟨arr, cap, h1, h2, h3, h4, h5, h6, h7, h8⟩
      · exact .inl hm
      · refine .inr ⟨arr, cap, ?_, h2, h3, h4, h5, ?_, h7, h8⟩
        · rw [hoth _ (fun e => hsi ?_)]
          · exact h1
          · exact hI.inj s' i' B1 s i B hB1 hB (by unfold Hd.real; rw [h2]; simp) hreal e
        · intro e j row c he hj
          obtain ⟨u, g1, g2, g3, g4⟩ := h6 e j row c he hj
          exact ⟨u, g1, g2, g3.mono hL (Xle.refl X), fun hcl => (g4 hcl).mono hL⟩
  · intro s1 i1 B1 s2 i2 B2 hb1 hb2 hr1 hr2 heq
    have key : ∀ s' i' B1, hget (hset h s i B') s' i' = some B1 → ∃ B2, hget h s' i' = some B2 := by
      intro s' i' B1 hB1
      by_cases hsi : s' = s ∧ i' = i
      · obtain ⟨rfl, rfl⟩ := hsi; exact ⟨B, hB⟩
      · rw [hget_set_other h B' hsi (hget_base hB)] at hB1; exact ⟨_, hB1⟩
    obtain ⟨C1, hC1⟩ := key _ _ _ hb1
    obtain ⟨C2, hC2⟩ := key _ _ _ hb2
    exact hI.inj s1 i1 C1 s2 i2 C2 hC1 hC2 hr1 hr2 heq

omit [Gls] in
theorem BOK.real {s i : Nat} {B : Blk} (hb : BOK F w A X s i B) (hne : B.els ≠ []) : (X.D s i).real := by
  rcases hb.mem with hm | ⟨arr, cap, _, h2, _⟩
  · exact absurd hm.2 hne
  · unfold Hd.real; rw [h2]; simp

theorem Inv.store (P : Program) (hI : Inv F w A X h) {s i e j : Nat} {B : Blk} (hB : hget h s i = some B) (hfz : B.fz = false) (he : e < B.els.length) {cs : List V} {us : Array Value} (hj : j + cs.length ≤ B.z)
    (hcs : CellsOK w A X cs us) :
    ∃ w', (storeCells ⟨(X.D s i).b, (X.D s i).o + e * B.z + j, none⟩ us.toList).run P w = .ok () w' ∧ Later w A w' A ∧
      Inv F w' A X (hset h s i { B with els := B.els.set e (splice (B.els.getD e []) j cs), cl := B.cl && cs.all V.refFree }) := by
  have hb := hI.blk s i B hB
  have hne : B.els ≠ [] := fun hh => by rw [hh] at he; simp at he
  have hreal := hb.real hne
  rcases hb.mem with hm | ⟨arr, cap, h1, h2, h3, h4, h5, h6, h7, h8⟩
  · exact absurd hm.2 hne
  have hrow : B.els.getD e [] = B.els[e] := by simp [List.getD, List.getElem?_eq_getElem he]
  have hrl : (B.els[e]).length = B.z := hb.rows _ (List.getElem_mem he)
  have hel : (e + 1) * B.z ≤ cap * B.z := Nat.mul_le_mul_right _ (by omega)
  have hfit : (X.D s i).o + e * B.z + j + cs.length ≤ arr.size := by rw [Nat.add_mul] at hel; omega
  have husl : us.toList.length = cs.length := by simpa using hcs.1
  have hrun := run_storeCells_at P (X.D s i).b ((X.D s i).o + e * B.z + j) B.ty us.toList 0 arr w h1 (by rw [husl]; simpa using hfit) (by
    intro v hv
    obtain ⟨k, hk⟩ := List.mem_iff_getElem?.1 hv
    have hk' : us[k]? = some v := by simpa using hk
    have hlt : k < cs.length := by have := (Array.getElem?_eq_some_iff.1 hk').1; rw [hcs.1] at this; exact this
    obtain ⟨u, g1, g2, _⟩ := hcs.2 k cs[k] (List.getElem?_eq_getElem hlt)
    rw [hk'] at g1; cases g1; exact g2)
  simp only [Nat.add_zero] at hrun
  refine ⟨_, hrun, hI.turn hB (by simp [World.setRow]) rfl rfl rfl hfz hreal (fun b hbne => setRow_other w _ b _ hbne) ?_⟩
  intro hL
  have hal : (X.D s i).o + e * B.z + j + us.toList.length ≤ arr.toList.length := by rw [husl]; simpa using hfit
  refine { hN := hb.hN, hz := hb.hz, hlen := by rw [hb.hlen]; simp, rows := ?_, mem := .inr ⟨_, cap, setRow_heap w _ arr _ B.ty _ h1, by simpa using h2, by simpa using h3, h4, ?_, ?_, h7, h8⟩ }
  · intro row hr
    rcases List.mem_or_eq_of_mem_set hr with hr | rfl
    · exact hb.rows row hr
    · rw [splice_length, hrow, hrl]; rw [hrow, hrl]; exact hj
  · simp only [List.size_toArray, List.length_append, List.length_take, List.length_drop, Array.length_toList]
    simp at hal; omega
  · intro e' j' row c he' hj'
    simp only at he'
    by_cases hee : e' = e
    · subst hee
      rw [List.getElem?_set_self he] at he'
      obtain rfl := Option.some.inj he'
      rw [hrow, splice_get _ _ _ _ (by rw [hrl]; exact hj)] at hj'
      have hlen' : j' < B.z ∨ B.z ≤ j' := by omega
      simp only [List.getElem?_toArray]
      rw [seg_get _ _ _ _ hal]
      by_cases c1 : j' < j
      · rw [if_pos c1] at hj'
        obtain ⟨u, g1, g2, g3, g4⟩ := h6 e' j' B.els[e'] c (List.getElem?_eq_getElem he) hj'
        refine ⟨u, ?_, g2, g3.mono hL (Xle.refl X), fun hcl => (g4 (by simp at hcl; exact hcl.1)).mono hL⟩
        rw [if_pos (by omega)]; simpa using g1
      · rw [if_neg c1] at hj'
        by_cases c2 : j' < j + cs.length
        · rw [if_pos c2] at hj'
          obtain ⟨u, g1, g2, g3⟩ := hcs.2 (j' - j) c hj'
          refine ⟨u, ?_, g2, g3.mono hL (Xle.refl X), fun hcl => ?_⟩
          · rw [if_neg (by omega), if_pos (by omega)]
            rw [show (X.D s i).o + e' * B.z + j' - ((X.D s i).o + e' * B.z + j) = j' - j by omega]; simpa using g1
          · simp only [Bool.and_eq_true, List.all_eq_true] at hcl
            exact PV.mono hL (PV.of_refFree g3 (hcl.2 c (List.mem_of_getElem? hj')))
        · rw [if_neg c2] at hj'
          obtain ⟨u, g1, g2, g3, g4⟩ := h6 e' j' B.els[e'] c (List.getElem?_eq_getElem he) hj'
          refine ⟨u, ?_, g2, g3.mono hL (Xle.refl X), fun hcl => (g4 (by simp at hcl; exact hcl.1)).mono hL⟩
          rw [if_neg (by omega), if_neg (by omega)]; simpa using g1
    · rw [List.getElem?_set_ne (fun hh => hee hh.symm)] at he'
      obtain ⟨u, g1, g2, g3, g4⟩ := h6 e' j' row c he' hj'
      have hj2 : j' < B.z := by rw [← hb.rows row (List.mem_of_getElem? he')]; exact (List.getElem?_eq_some_iff.1 hj').1
      refine ⟨u, ?_, g2, g3.mono hL (Xle.refl X), fun hcl => (g4 (by simp at hcl; exact hcl.1)).mono hL⟩
      simp only [List.getElem?_toArray]
      rw [seg_get _ _ _ _ hal]
      rcases flat_lt hee hj hj2 with hc | hc
      · rw [if_pos (by omega)]; simpa using g1
      · rw [if_neg (by omega), if_neg (by omega)]; simpa using g1

/-- The references with another header at one place. -/
def Refs.put (X : Refs) (s i : Nat) (d : Hd) : Refs := { X with D := fun s' i' => if s' = s ∧ i' = i then d else X.D s' i' }

omit [Gls] in
theorem Refs.put_same (X : Refs) (s i : Nat) (d : Hd) : (X.put s i d).D s i = d := by simp [Refs.put]
omit [Gls] in
theorem Refs.put_other (X : Refs) {s i s' i' : Nat} (d : Hd) (hne : ¬ (s' = s ∧ i' = i)) : (X.put s i d).D s' i' = X.D s' i' := by simp only [Refs.put]; rw [if_neg hne]

theorem Inv.turn2 (hI : Inv F w A X h) {s i : Nat} {B B' : Blk} (hB : hget h s i = some B) {w' : World} {A' : Nat → Prop} {d' : Hd} (hsz : w.heap.size ≤ w'.heap.size) (hos : w'.os = w.os) (htp : w'.tape = w.tape) (hout : w'.output = w.output)
    (hfz : B.fz = false)
    (hoth : ∀ b, b < w.heap.size → ((X.D s i).real → b ≠ (X.D s i).b) → w'.heap[b]? = w.heap[b]?)
    (hA1 : ∀ b, A b → A' b) (hA2 : ∀ b, A' b → A b ∨ (w.heap.size ≤ b ∧ b < w'.heap.size))
    (hlen : d' = X.D s i ∨ (X.D s i).len < d'.len)
    (hb' : d'.real → ((X.D s i).real ∧ d'.b = (X.D s i).b) ∨ w.heap.size ≤ d'.b)
    (hok : Later w A w' A' → Xle X (X.put s i d') → BOK F w' A' (X.put s i d') s i B') :
    Later w A w' A' ∧ Xle X (X.put s i d') ∧ Inv F w' A' (X.put s i d') (hset h s i B') := by
  have hb := hI.blk s i B hB
  have hown : (X.D s i).real → A (X.D s i).b ∧ (F.M (X.D s i).b ∨ F.w0.heap.size ≤ (X.D s i).b) := by
    intro hreal
    rcases hb.mem with hm | ⟨arr, cap, _, _, _, _, _, _, _, h8⟩
    · exact absurd hm.1 hreal
    · exact h8 hfz
  have hL : Later w A w' A' := ⟨hsz, fun b hlt hA => ⟨hoth b hlt (fun hr e => hA (e ▸ (hown hr).1)), fun hh => by rcases hA2 b hh with h1 | h1; exact hA h1; omega⟩⟩
  have hX : Xle X (X.put s i d') := by
    intro s' i' hi
    refine ⟨hi, ?_⟩
    by_cases hsi : s' = s ∧ i' = i
    · obtain ⟨rfl, rfl⟩ := hsi; rw [Refs.put_same]; exact hlen
    · rw [Refs.put_other X d' hsi]; exact .inl rfl
  refine ⟨hL, hX, { gl := hI.gl.mono hL, abd := ?_, aold := ?_, akeep := fun b h1 h2 h3 => hA1 b (hI.akeep b h1 h2 h3), os := hos.trans hI.os, tape := htp.trans hI.tape, output := hout.trans hI.output, size := by have := hI.size; omega, same := ?_, xle := hI.xle.trans hX, nb := fun s' => by rw [hnext_set]; exact hI.nb s', blk := ?_, inj := ?_ }⟩
  · intro b hA
    rcases hA2 b hA with h1 | h1
    · have := hI.abd b h1; omega
    · exact h1.2
  · intro b hlt hA
    rcases hA2 b hA with h1 | h1
    · exact hI.aold b hlt h1
    · have := hI.size; omega
  · intro b hlt hM
    have := hI.size
    rw [hoth b (by omega) (fun hr e => ?_)]
    · exact hI.same b hlt hM
    · rcases (hown hr).2 with h1 | h1
      · exact hM (e ▸ h1)
      · omega
  · intro s' i' B1 hB1
    by_cases hsi : s' = s ∧ i' = i
    · obtain ⟨rfl, rfl⟩ := hsi
      rw [hget_set_same hB] at hB1
      obtain rfl := Option.some.inj hB1
      exact hok hL hX
    · rw [hget_set_other h B' hsi (hget_base hB)] at hB1
      have ho := hI.blk s' i' B1 hB1
      have hD := Refs.put_other X d' hsi
      refine { hN := ho.hN, hz := by rw [hD]; exact ho.hz, hlen := by rw [hD]; exact ho.hlen, rows := ho.rows, mem := ?_ }
      rw [hD]
      rcases ho.mem with hm | ⟨arr, cap, h1, h2, h3, h4, h5, h6, h7, h8⟩
      · exact .inl hm
      · have hlt : (X.D s' i').b < w.heap.size := (Array.getElem?_eq_some_iff.1 h1).1
        refine .inr ⟨arr, cap, ?_, h2, h3, h4, h5, ?_, ?_, ?_⟩
        · rw [hoth _ hlt (fun hr e => hsi ?_)]
          · exact h1
          · exact hI.inj s' i' B1 s i B hB1 hB (by unfold Hd.real; rw [h2]; simp) hr e
        · intro e j row c he hj
          obtain ⟨u, g1, g2, g3, g4⟩ := h6 e j row c he hj
          exact ⟨u, g1, g2, g3.mono hL hX, fun hcl => (g4 hcl).mono hL⟩
        · intro hf hh
          rcases hA2 _ hh with h1' | h1'
          · exact h7 hf h1'
          · omega
        · intro hf; exact ⟨hA1 _ (h8 hf).1, (h8 hf).2⟩
  · intro s1 i1 B1 s2 i2 B2 hb1 hb2 hr1 hr2 heq
    have key : ∀ s' i' B1, hget (hset h s i B') s' i' = some B1 → ((X.put s i d').D s' i').real → (s' = s ∧ i' = i ∧ (((X.D s i).real ∧ d'.b = (X.D s i).b) ∨ w.heap.size ≤ d'.b)) ∨ (¬ (s' = s ∧ i' = i) ∧ hget h s' i' = some B1 ∧ (X.D s' i').real ∧ (X.D s' i').b < w.heap.size) := by
      intro s' i' B1 hB1 hr
      by_cases hsi : s' = s ∧ i' = i
      · obtain ⟨rfl, rfl⟩ := hsi
        rw [Refs.put_same] at hr
        exact .inl ⟨rfl, rfl, hb' hr⟩
      · rw [hget_set_other h B' hsi (hget_base hB)] at hB1
        rw [Refs.put_other X d' hsi] at hr
        refine .inr ⟨hsi, hB1, hr, ?_⟩
        rcases (hI.blk s' i' B1 hB1).mem with hm | ⟨arr, cap, h1, _⟩
        · exact absurd hm.1 hr
        · exact (Array.getElem?_eq_some_iff.1 h1).1
    rcases key _ _ _ hb1 hr1 with ⟨e1, e1', c1⟩ | ⟨n1, g1, r1, l1⟩ <;> rcases key _ _ _ hb2 hr2 with ⟨e2, e2', c2⟩ | ⟨n2, g2, r2, l2⟩
    · exact ⟨e1.trans e2.symm, e1'.trans e2'.symm⟩
    · rw [e1, e1', Refs.put_same, Refs.put_other X d' n2] at heq
      rcases c1 with ⟨r, c1⟩ | c1
      · have := hI.inj s i B s2 i2 B2 hB g2 r r2 (c1.symm.trans heq)
        exact absurd ⟨this.1.symm, this.2.symm⟩ n2
      · omega
    · rw [e2, e2', Refs.put_same, Refs.put_other X d' n1] at heq
      rcases c2 with ⟨r, c2⟩ | c2
      · have := hI.inj s1 i1 B1 s i B g1 hB r1 r (heq.trans c2)
        exact absurd this n1
      · omega
    · rw [Refs.put_other X d' n1, Refs.put_other X d' n2] at heq
      exact hI.inj s1 i1 B1 s2 i2 B2 g1 g2 r1 r2 heq

/-- What an appended slice reads as. -/
structure Src (P : Program) (w : World) (A : Nat → Prop) (X : Refs) (size : Nat) (x : Value) (els : List (List V)) (cl : Bool) (news : List Value) : Prop where
  shape : ∃ a c, x = .slice a els.length c
  run : (Builtin.firstCells size els.length x).run P w = .ok news.toArray w
  run' : (Builtin.firstCells size els.length x).run P w.drew = .ok news.toArray w.drew
  rows : ∀ row ∈ els, row.length = size
  len : news.length = els.length * size
  cells : ∀ e j row c, els[e]? = some row → row[j]? = some c → ∃ u, news[e * size + j]? = some u ∧ RV w A X c u ∧ (cl = true → PV w A c u)
  one : ∀ u ∈ news, u.oneCell' = true

omit [Gls] in
theorem rows_get {els : List (List V)} {e : Nat} {row : List V} (els2 : List (List V)) (he : (els ++ els2)[e]? = some row) : (e < els.length ∧ els[e]? = some row) ∨ (els.length ≤ e ∧ els2[e - els.length]? = some row) := by
  rw [List.getElem?_append] at he
  split at he
  · rename_i hlt; exact .inl ⟨hlt, he⟩
  · rename_i hlt; exact .inr ⟨by omega, he⟩

end
end Go.Sx
end
section
/- Appending to an owned slice. No conditions. -/
namespace Go.Sx
open Go.RowKit
variable [Gls]

section
variable {F : Fr} {w : World} {A : Nat → Prop} {X : Refs} {h : Hp}

omit [Gls] in
theorem run_append_src_room (P : Program) (t ty e : TypeId) (i : TypeInfo) (ht : P.underlying t = some (.slice e)) (hi : P.info? e = some i) (g o n cap : Nat) (cur : Array Value) (hg : w.heap[g]? = some (.cells cur e (0, 0)))
    {x : Value} {els : List (List V)} {cl : Bool} {news : List Value} (hs : Src P w A X i.size x els cl news) (hroom : n + els.length ≤ cap) (hfit : o + n * i.size + news.length ≤ cur.size) :
    (Builtin.append_ #[t, t] ty #[.slice (some ⟨g, o, none⟩) n cap, x]).run P w =
      .ok (.slice (some ⟨g, o, none⟩) (n + els.length) cap) (w.setRow g (cur.toList.take (o + n * i.size) ++ news ++ cur.toList.drop (o + n * i.size + news.length)).toArray) := by
  obtain ⟨a, c, rfl⟩ := hs.shape
  have hf := hs.run
  have hst := run_storeCells_at P g (o + n * i.size) e news 0 cur w hg (by simpa using hfit) hs.one
  simp only [Nat.add_zero] at hst
  simp [Builtin.append_, run_underlying ht, sizeOf, typeInfo, hi, Builtin.lenOf, hroom, hf, addr_add, hst]

omit [Gls] in
theorem run_append_src_nil0 (P : Program) (t ty e : TypeId) (i : TypeInfo) (ht : P.underlying t = some (.slice e)) (hi : P.info? e = some i)
    {x : Value} {els : List (List V)} {cl : Bool} {news : List Value} (hs : Src P w A X i.size x els cl news) (h0 : els.length = 0) :
    (Builtin.append_ #[t, t] ty #[.slice none 0 0, x]).run P w = .ok (.slice none 0 0) w := by
  obtain ⟨a, c, rfl⟩ := hs.shape
  have hf := hs.run
  rw [h0] at hf ⊢
  simp [Builtin.append_, run_underlying ht, sizeOf, typeInfo, hi, Builtin.lenOf, hf]

omit [Gls] in
theorem run_append_src_emp0 (P : Program) (t ty e : TypeId) (i : TypeInfo) (ht : P.underlying t = some (.slice e)) (hi : P.info? e = some i) (b : Addr)
    {x : Value} {els : List (List V)} {cl : Bool} {news : List Value} (hs : Src P w A X i.size x els cl news) (h0 : els.length = 0) :
    (Builtin.append_ #[t, t] ty #[.slice (some b) 0 0, x]).run P w = .ok (.slice (some b) 0 0) w := by
  obtain ⟨a, c, rfl⟩ := hs.shape
  have hf := hs.run
  have hn : news = [] := List.eq_nil_of_length_eq_zero (by rw [hs.len, h0, Nat.zero_mul])
  subst hn
  rw [h0] at hf ⊢
  simp [Builtin.append_, run_underlying ht, sizeOf, typeInfo, hi, Builtin.lenOf, hf, storeCells]

omit [Gls] in
theorem run_append_src_nil (P : Program) (t ty e : TypeId) (i : TypeInfo) (z : Value) (ht : P.underlying t = some (.slice e)) (hi : P.info? e = some i) (hz : i.zero = some z)
    {x : Value} {els : List (List V)} {cl : Bool} {news : List Value} (hs : Src P w A X i.size x els cl news) (h0 : 0 < els.length) (h63 : (els.length : Int) ≤ 9223372036854775807) (h48 : els.length * i.bytes ≤ 281474976710656) :
    (Builtin.append_ #[t, t] ty #[.slice none 0 0, x]).run P w =
      .ok (.slice (some ⟨w.heap.size, 0, none⟩) els.length (grownCap w els.length 0 e)) (w.drew.alloc (.cells (news.toArray ++ Builtin.zeroCells z.cells (grownCap w els.length 0 e - els.length)) e)) := by
  obtain ⟨a, c, rfl⟩ := hs.shape
  have hn : ¬ els.length = 0 := by omega
  have hn' : ¬ els = [] := fun hh => by rw [hh] at h0; simp at h0
  have h63' : ¬ (9223372036854775807 < (els.length : Int)) := by omega
  have h48' : ¬ (281474976710656 < Builtin.nextslicecap els.length 0 * i.bytes) := by rw [nextslicecap_zero h0]; omega
  have hf := hs.run'
  simp [Builtin.append_, run_underlying ht, sizeOf, typeInfo, zeroValue, hi, hz, Builtin.lenOf, hn', h63', h48', Question.forced, run_firstCells_none, hf, newRow, grownCap]

omit [Gls] in
theorem run_append_src_grow (P : Program) (t ty e : TypeId) (i : TypeInfo) (z : Value) (ht : P.underlying t = some (.slice e)) (hi : P.info? e = some i) (hz : i.zero = some z)
    (b : Addr) (n cap : Nat) (olds : List Value) (hlo : olds.length = n * i.size) (holds : ∀ j v, olds[j]? = some v → w.cell? (b.add j) = some v)
    {x : Value} {els : List (List V)} {cl : Bool} {news : List Value} (hs : Src P w A X i.size x els cl news)
    (hg : cap < n + els.length) (h63 : ((n + els.length : Nat) : Int) ≤ 9223372036854775807) (hfit : Builtin.nextslicecap (n + els.length) cap * i.bytes ≤ 281474976710656) :
    (Builtin.append_ #[t, t] ty #[.slice (some b) n cap, x]).run P w =
      .ok (.slice (some ⟨w.heap.size, 0, none⟩) (n + els.length) (grownCap w (n + els.length) cap e))
        (w.drew.alloc (.cells (olds.toArray ++ news.toArray ++ Builtin.zeroCells z.cells (grownCap w (n + els.length) cap e - (n + els.length))) e)) := by
  obtain ⟨a, c, rfl⟩ := hs.shape
  have hn : ¬ (n + els.length ≤ cap) := by omega
  have h63' : ¬ (9223372036854775807 < ((n : Int) + (els.length : Int))) := by omega
  have h48' : ¬ (281474976710656 < Builtin.nextslicecap (n + els.length) cap * i.bytes) := by omega
  have hf := hs.run'
  have hfo := run_firstCells_some (P := P) w.drew i.size n b n cap olds hlo (by simpa using holds)
  simp [Builtin.append_, run_underlying ht, sizeOf, typeInfo, zeroValue, hi, hz, Builtin.lenOf, hn, h63', h48', Question.forced, hf, hfo, newRow, grownCap]
  congr 2
  apply Array.ext'
  simp [List.append_assoc]

theorem Inv.drew (hI : Inv F w A X h) : Later w A w.drew A ∧ Inv F w.drew A X h := by
  have hL : Later w A w.drew A := ⟨Nat.le_refl _, fun _ _ hA => ⟨rfl, hA⟩⟩
  refine ⟨hL, { gl := hI.gl.mono hL, abd := hI.abd, aold := hI.aold, akeep := hI.akeep, os := hI.os, tape := hI.tape, output := hI.output, size := hI.size, same := hI.same, xle := hI.xle, nb := hI.nb, blk := ?_, inj := hI.inj }⟩
  intro s i B hB
  have ho := hI.blk s i B hB
  refine { hN := ho.hN, hz := ho.hz, hlen := ho.hlen, rows := ho.rows, mem := ?_ }
  rcases ho.mem with hm | ⟨arr, cap, h1, h2, h3, h4, h5, h6, h7, h8⟩
  · exact .inl hm
  · refine .inr ⟨arr, cap, h1, h2, h3, h4, h5, ?_, h7, h8⟩
    intro e j row c he hj
    obtain ⟨u, g1, g2, g3, g4⟩ := h6 e j row c he hj
    exact ⟨u, g1, g2, g3.mono hL (Xle.refl X), fun hcl => (g4 hcl).mono hL⟩

omit [Gls] in
theorem idx_lt {e j z n : Nat} (he : e < n) (hj : j < z) : e * z + j < n * z := by
  have : (e + 1) * z ≤ n * z := Nat.mul_le_mul_right z he
  rw [Nat.add_mul] at this; omega

theorem Inv.append (P : Program) (hI : Inv F w A X h) {s i : Nat} {B : Blk} (hB : hget h s i = some B) (hfz : B.fz = false) {T ty e : TypeId} {ti : TypeInfo} {zv : Value} (ht : P.underlying T = some (.slice e)) (hi : P.info? e = some ti)
    (hzv : ti.zero = some zv) (hty : B.ty = e) (hzz : ti.size = B.z) (hz0 : 0 < B.z) (hzs : zv.cells.size = B.z) {x : Value} {els2 : List (List V)} {cl2 : Bool} {news : List Value} (hsrc : Src P w A X B.z x els2 cl2 news)
    (hbytes : (B.els.length + els2.length) * ti.bytes ≤ 140737488355328) (h63 : B.els.length + els2.length ≤ maxLen) :
    ∃ v' w' A' X', (Builtin.append_ #[T, T] ty #[(X.D s i).v, x]).run P w = .ok v' w' ∧ Later w A w' A' ∧ Xle X X' ∧
      Inv F w' A' X' (hset h s i { B with els := B.els ++ els2, cl := B.cl && cl2 }) ∧ RV w' A' X' (.bsl s i (B.els.length + els2.length)) v' := by
  have hb := hI.blk s i B hB
  have h63' : ((B.els.length + els2.length : Nat) : Int) ≤ 9223372036854775807 := by simp only [maxLen] at h63; omega
  subst hty
  rw [← hzz] at hsrc
  have newcells : ∀ (old : List Value) (tail : Array Value), old.length = B.els.length * B.z →
      (∀ e j row c, B.els[e]? = some row → row[j]? = some c → ∃ u, old[e * B.z + j]? = some u ∧ u.oneCell' = true ∧ RV w A X c u ∧ (B.cl = true → PV w A c u)) →
      ∀ e j row c, (B.els ++ els2)[e]? = some row → row[j]? = some c → ∃ u, (old ++ news ++ tail.toList)[e * B.z + j]? = some u ∧ u.oneCell' = true ∧ RV w A X c u ∧ ((B.cl && cl2) = true → PV w A c u) := by
    intro old tail hol hold e j row c he hj
    rcases rows_get els2 he with ⟨hlt, he'⟩ | ⟨hge, he'⟩
    · obtain ⟨u, g1, g2, g3, g4⟩ := hold e j row c he' hj
      refine ⟨u, ?_, g2, g3, fun hcl => g4 (by simp at hcl; exact hcl.1)⟩
      have : e * B.z + j < old.length := (List.getElem?_eq_some_iff.1 g1).1
      rw [List.append_assoc, List.getElem?_append_left this]; exact g1
    · obtain ⟨u, g1, g3, g4⟩ := hsrc.cells _ j row c he' hj
      rw [hzz] at g1
      refine ⟨u, ?_, hsrc.one u (List.mem_of_getElem? g1), g3, fun hcl => g4 (by simp at hcl; exact hcl.2)⟩
      have hidx : e * B.z + j = old.length + ((e - B.els.length) * B.z + j) := by
        rw [hol, Nat.sub_mul]
        have := Nat.mul_le_mul_right B.z hge
        omega
      have hlt : (e - B.els.length) * B.z + j < news.length := (List.getElem?_eq_some_iff.1 g1).1
      rw [List.append_assoc, hidx, List.getElem?_append_right (by omega), List.getElem?_append_left (by omega)]
      rw [show old.length + ((e - B.els.length) * B.z + j) - old.length = (e - B.els.length) * B.z + j by omega]
      exact g1
  have newrows : ∀ row ∈ B.els ++ els2, row.length = B.z := by
    intro row hr
    rcases List.mem_append.1 hr with hr | hr
    · exact hb.rows row hr
    · rw [hsrc.rows row hr, hzz]
  -- what a fresh block gives
  have fresh : ∀ (cap : Nat) (old : List Value), cap ≤ maxLen → B.els.length + els2.length ≤ cap → (X.D s i).len < B.els.length + els2.length → old.length = B.els.length * B.z →
      (∀ e j row c, B.els[e]? = some row → row[j]? = some c → ∃ u, old[e * B.z + j]? = some u ∧ u.oneCell' = true ∧ RV w A X c u ∧ (B.cl = true → PV w A c u)) →
      ∃ A' X', Later w A (w.drew.alloc (.cells (old.toArray ++ news.toArray ++ Builtin.zeroCells zv.cells (cap - (B.els.length + els2.length))) B.ty)) A' ∧ Xle X X' ∧
        Inv F (w.drew.alloc (.cells (old.toArray ++ news.toArray ++ Builtin.zeroCells zv.cells (cap - (B.els.length + els2.length))) B.ty)) A' X' (hset h s i { B with els := B.els ++ els2, cl := B.cl && cl2 }) ∧
        RV (w.drew.alloc (.cells (old.toArray ++ news.toArray ++ Builtin.zeroCells zv.cells (cap - (B.els.length + els2.length))) B.ty)) A' X' (.bsl s i (B.els.length + els2.length)) (.slice (some ⟨w.heap.size, 0, none⟩) (B.els.length + els2.length) cap) := by
    intro cap old hcm hcap hlen hol hold
    have hcellsz : (old.toArray ++ news.toArray ++ Builtin.zeroCells zv.cells (cap - (B.els.length + els2.length))).size = cap * B.z := by
      simp only [Array.size_append, List.size_toArray, size_zeroCells, hzs, hol, hsrc.len, hzz, ← Nat.add_mul]
      congr 1; omega
    have ht := hI.turn2 (B' := { B with els := B.els ++ els2, cl := B.cl && cl2 }) (w' := w.drew.alloc (.cells (old.toArray ++ news.toArray ++ Builtin.zeroCells zv.cells (cap - (B.els.length + els2.length))) B.ty))
      (A' := fun b => A b ∨ b = w.heap.size) (d' := { b := w.heap.size, z := B.z, len := B.els.length + els2.length, v := .slice (some ⟨w.heap.size, 0, none⟩) (B.els.length + els2.length) cap }) hB (by simp) rfl rfl rfl hfz
      (fun b hlt _ => Below.heap_alloc w.drew _ b hlt) (fun b hA => .inl hA) (fun b hA => by rcases hA with hA | rfl; exact .inl hA; exact .inr ⟨Nat.le_refl _, by simp⟩) (.inr hlen) (fun _ => .inr (Nat.le_refl _)) ?_
    · refine ⟨_, _, ht.1, ht.2.1, ht.2.2, ?_⟩
      refine .bsl s i _ _ _ (by simpa [Refs.put] using hb.hN) (by rw [Refs.put_same]; exact Nat.le_refl _) (fun _ => by rw [Refs.put_same])
    · intro hL hX
      refine { hN := by simpa [Refs.put] using hb.hN, hz := by rw [Refs.put_same], hlen := by rw [Refs.put_same]; simp, rows := newrows, mem := .inr ⟨_, cap, ?_, by rw [Refs.put_same]; simp, by simpa using hcap, hcm, by rw [Refs.put_same, hcellsz, Nat.zero_add]; exact Nat.le_refl _, ?_, ?_, ?_⟩ }
      · rw [Refs.put_same]; exact heap_alloc_new w.drew _
      · intro e j row c he hj
        obtain ⟨u, g1, g2, g3, g4⟩ := newcells old (Builtin.zeroCells zv.cells (cap - (B.els.length + els2.length))) hol hold e j row c he hj
        refine ⟨u, ?_, g2, g3.mono hL hX, fun hcl => (g4 hcl).mono hL⟩
        rw [Refs.put_same, ← Array.getElem?_toList]
        simpa using g1
      · rw [show ({ B with els := B.els ++ els2, cl := B.cl && cl2 } : Blk).fz = false from hfz]; simp
      · intro _; rw [Refs.put_same]; exact ⟨.inr rfl, .inr hI.size⟩
  rcases hb.mem with ⟨hv, hels⟩ | ⟨arr, cap, h1, h2, h3, h4, h5, h6, h7, h8⟩
  · have hlen0 : (X.D s i).len = 0 := by rw [hb.hlen, hels]; rfl
    by_cases hm : els2.length = 0
    · have he2 : els2 = [] := List.eq_nil_of_length_eq_zero hm
      subst he2
      refine ⟨.slice none 0 0, w, A, X, ?_, Later.refl w A, Xle.refl X, ?_, ?_⟩
      · rw [hv]; exact run_append_src_nil0 P T ty _ ti ht hi hsrc rfl
      · have hz : hset h s i { B with els := B.els ++ [], cl := B.cl && cl2 } = hset h s i { B with cl := B.cl && cl2 } := by rw [List.append_nil]
        rw [hz]
        have hh := (hI.turn2 (B' := { B with cl := B.cl && cl2 }) (d' := X.D s i) (A' := A) hB (Nat.le_refl _) rfl rfl rfl hfz (fun _ _ _ => rfl) (fun _ hA => hA) (fun _ hA => .inl hA) (.inl rfl) (fun hr => absurd hv hr) (by
          intro _ _
          refine { hN := by simpa [Refs.put] using hb.hN, hz := by rw [Refs.put_same]; exact hb.hz, hlen := by rw [Refs.put_same]; exact hb.hlen, rows := hb.rows, mem := .inl ⟨by rw [Refs.put_same]; exact hv, hels⟩ })).2.2
        have hX : X.put s i (X.D s i) = X := by
          unfold Refs.put
          congr 1
          funext s' i'
          split
          · rename_i hc; rw [hc.1, hc.2]
          · rfl
        rw [hX] at hh; exact hh
      · rw [hels]
        exact .bsl s i 0 none 0 hb.hN (Nat.zero_le _) (fun _ => hv.symm)
    · have hr := run_append_src_nil P T ty _ ti zv ht hi hzv hsrc (by omega) (by omega) (by have := hbytes; rw [hels] at this; simp at this; omega)
      rw [hels] at hbytes h63 fresh
      simp only [List.length_nil, Nat.zero_add, Nat.zero_mul, List.nil_append] at fresh h63
      obtain ⟨A', X', f1, f2, f3, f4⟩ := fresh (grownCap w els2.length 0 B.ty) [] (grownCap_le_maxLen w _ 0 B.ty h63) (grownCap_ge w _ 0 B.ty) (by omega) (by simp) (by intro e j row c he; simp at he)
      simp only [List.toArray, Array.empty_append] at f1 f3 f4
      refine ⟨_, _, A', X', by rw [hv]; exact hr, ?_, f2, ?_, ?_⟩
      · simpa using f1
      · rw [hels]; simpa using f3
      · rw [hels]; simpa using f4
  · have hlen0 : (X.D s i).len = B.els.length := hb.hlen
    have hel : B.els.length * B.z ≤ cap * B.z := Nat.mul_le_mul_right _ h3
    by_cases hroom : B.els.length + els2.length ≤ cap
    · have hfit : (X.D s i).o + B.els.length * ti.size + news.length ≤ arr.size := by
        have := Nat.mul_le_mul_right B.z hroom
        rw [Nat.add_mul] at this
        rw [hsrc.len, hzz]; omega
      have hr := run_append_src_room P T ty _ ti ht hi (X.D s i).b (X.D s i).o B.els.length cap arr h1 hsrc hroom hfit
      rw [hzz] at hr hfit
      have hal : (X.D s i).o + B.els.length * B.z + news.length ≤ arr.toList.length := by simpa using hfit
      have hreal : (X.D s i).real := by unfold Hd.real; rw [h2]; simp
      have hlenor : ({ b := (X.D s i).b, z := B.z, len := B.els.length + els2.length, v := .slice (some ⟨(X.D s i).b, (X.D s i).o, none⟩) (B.els.length + els2.length) cap, o := (X.D s i).o } : Hd) = X.D s i ∨ (X.D s i).len < B.els.length + els2.length := by
        by_cases hm : els2.length = 0
        · left
          have hz' := hb.hz
          rw [hm, Nat.add_zero]
          cases hd : X.D s i with
          | mk b z len v o =>
            rw [hd] at h2 hlen0 hz'
            simp only at h2 hlen0 hz'
            subst hlen0 hz' h2
            rfl
        · right; omega
      have ht := hI.turn2 (B' := { B with els := B.els ++ els2, cl := B.cl && cl2 }) (w' := w.setRow (X.D s i).b (arr.toList.take ((X.D s i).o + B.els.length * B.z) ++ news ++ arr.toList.drop ((X.D s i).o + B.els.length * B.z + news.length)).toArray)
        (A' := A) (d' := { b := (X.D s i).b, z := B.z, len := B.els.length + els2.length, v := .slice (some ⟨(X.D s i).b, (X.D s i).o, none⟩) (B.els.length + els2.length) cap, o := (X.D s i).o }) hB (by simp) rfl rfl rfl hfz
        (fun b _ hne => setRow_other w _ b _ (hne hreal)) (fun _ hA => hA) (fun _ hA => .inl hA) hlenor (fun _ => .inl ⟨hreal, rfl⟩) ?_
      · refine ⟨_, _, _, _, by rw [h2]; exact hr, ht.1, ht.2.1, ht.2.2, ?_⟩
        exact .bsl s i _ _ _ (by simpa [Refs.put] using hb.hN) (by rw [Refs.put_same]; exact Nat.le_refl _) (fun _ => by rw [Refs.put_same])
      · intro hL hX
        refine { hN := by simpa [Refs.put] using hb.hN, hz := by rw [Refs.put_same], hlen := by rw [Refs.put_same]; simp, rows := newrows, mem := .inr ⟨(arr.toList.take ((X.D s i).o + B.els.length * B.z) ++ news ++ arr.toList.drop ((X.D s i).o + B.els.length * B.z + news.length)).toArray, cap, ?_, by rw [Refs.put_same]; simp, by simpa using hroom, h4, ?_, ?_, ?_, ?_⟩ }
        · rw [Refs.put_same]; exact setRow_heap w _ arr _ B.ty _ h1
        · rw [Refs.put_same]
          simp only [List.size_toArray, List.length_append, List.length_take, List.length_drop, Array.length_toList]
          simp at hal; omega
        · intro e j row c he hj
          rw [Refs.put_same]
          have hold : ∀ e j row c, B.els[e]? = some row → row[j]? = some c → ∃ u, ((arr.toList.drop (X.D s i).o).take (B.els.length * B.z))[e * B.z + j]? = some u ∧ u.oneCell' = true ∧ RV w A X c u ∧ (B.cl = true → PV w A c u) := by
            intro e j row c he hj
            obtain ⟨u, g1, g2, g3, g4⟩ := h6 e j row c he hj
            refine ⟨u, ?_, g2, g3, g4⟩
            have hjz : j < B.z := by rw [← hb.rows row (List.mem_of_getElem? he)]; exact (List.getElem?_eq_some_iff.1 hj).1
            rw [List.getElem?_take_of_lt (idx_lt (List.getElem?_eq_some_iff.1 he).1 hjz), List.getElem?_drop, ← Nat.add_assoc]
            simpa using g1
          obtain ⟨u, g1, g2, g3, g4⟩ := newcells _ (arr.toList.drop ((X.D s i).o + B.els.length * B.z + news.length)).toArray (by rw [List.length_take, List.length_drop, Array.length_toList]; simp at hal; omega) hold e j row c he hj
          refine ⟨u, ?_, g2, g3.mono hL hX, fun hcl => (g4 hcl).mono hL⟩
          have hsplit : arr.toList.take ((X.D s i).o + B.els.length * B.z) = arr.toList.take (X.D s i).o ++ (arr.toList.drop (X.D s i).o).take (B.els.length * B.z) := List.take_add ..
          simp only [List.getElem?_toArray]
          rw [hsplit, List.append_assoc, List.append_assoc, List.getElem?_append_right (by rw [List.length_take]; omega), List.length_take, ← List.append_assoc]
          have hmin : min (X.D s i).o arr.toList.length = (X.D s i).o := by omega
          rw [hmin, show (X.D s i).o + e * B.z + j - (X.D s i).o = e * B.z + j by omega]
          simpa using g1
        · rw [show ({ B with els := B.els ++ els2, cl := B.cl && cl2 } : Blk).fz = false from hfz]; simp
        · intro _; rw [Refs.put_same]; exact h8 hfz
    · have holds : ∀ j v, ((arr.toList.drop (X.D s i).o).take (B.els.length * ti.size))[j]? = some v → w.cell? ((⟨(X.D s i).b, (X.D s i).o, none⟩ : Addr).add j) = some v := by
        intro j v hj
        rw [addr_add]
        have hlt : j < B.els.length * ti.size := by
          have := (List.getElem?_eq_some_iff.1 hj).1; rw [List.length_take] at this; omega
        rw [List.getElem?_take_of_lt hlt, List.getElem?_drop] at hj
        have hj' : arr[(X.D s i).o + j]? = some v := by simpa using hj
        simp [World.cell?, h1, hj']
      have hr := run_append_src_grow P T ty _ ti zv ht hi hzv ⟨(X.D s i).b, (X.D s i).o, none⟩ B.els.length cap ((arr.toList.drop (X.D s i).o).take (B.els.length * ti.size)) (by rw [List.length_take, List.length_drop, Array.length_toList, hzz]; omega) holds hsrc (by omega) h63' (growslice_fits (by omega) hbytes)
      have hold : ∀ e j row c, B.els[e]? = some row → row[j]? = some c → ∃ u, ((arr.toList.drop (X.D s i).o).take (B.els.length * ti.size))[e * B.z + j]? = some u ∧ u.oneCell' = true ∧ RV w A X c u ∧ (B.cl = true → PV w A c u) := by
        intro e j row c he hj
        obtain ⟨u, g1, g2, g3, g4⟩ := h6 e j row c he hj
        refine ⟨u, ?_, g2, g3, g4⟩
        have hjz : j < B.z := by rw [← hb.rows row (List.mem_of_getElem? he)]; exact (List.getElem?_eq_some_iff.1 hj).1
        rw [hzz, List.getElem?_take_of_lt (idx_lt (List.getElem?_eq_some_iff.1 he).1 hjz), List.getElem?_drop, ← Nat.add_assoc]
        simpa using g1
      obtain ⟨A', X', f1, f2, f3, f4⟩ := fresh (grownCap w (B.els.length + els2.length) cap B.ty) _ (grownCap_le_maxLen w _ cap B.ty h63) (grownCap_ge w _ cap B.ty) (by omega) (by rw [List.length_take, List.length_drop, Array.length_toList, hzz]; omega) hold
      exact ⟨_, _, A', X', by rw [h2]; exact hr, f1, f2, f3, f4⟩

theorem Inv.appendIn (P : Program) (hI : Inv F w A X h) {s i : Nat} {B : Blk} (hB : hget h s i = some B) (hfz : B.fz = false) {T ty e : TypeId} {ti : TypeInfo} (ht : P.underlying T = some (.slice e)) (hi : P.info? e = some ti)
    (hty : B.ty = e) (hzz : ti.size = B.z) {x : Value} {els2 : List (List V)} {cl2 : Bool} {news : List Value} (hsrc : Src P w A X B.z x els2 cl2 news) {len cap c : Nat} (hcc : cap ≤ c) (hne : B.els ≠ []) (hroom : len + els2.length ≤ cap) (hcap : cap ≤ B.els.length) :
    ∃ w', (Builtin.append_ #[T, T] ty #[.slice (some ⟨(X.D s i).b, (X.D s i).o, none⟩) len c, x]).run P w = .ok (.slice (some ⟨(X.D s i).b, (X.D s i).o, none⟩) (len + els2.length) c) w' ∧ Later w A w' A ∧
      Inv F w' A X (hset h s i { B with els := B.els.take len ++ els2 ++ B.els.drop (len + els2.length), cl := B.cl && cl2 }) := by
  have hb := hI.blk s i B hB
  have hreal := hb.real hne
  rcases hb.mem with hm | ⟨arr, cap', h1, h2, h3, h4, h5, h6, h7, h8⟩
  · exact absurd hm.2 hne
  subst hty
  have hel : (len + els2.length) * B.z ≤ cap' * B.z := Nat.mul_le_mul_right _ (by omega)
  have hal : (X.D s i).o + len * B.z + news.length ≤ arr.toList.length := by have e1 : arr.toList.length = arr.size := Array.length_toList; have e2 := hsrc.len; rw [Nat.add_mul] at hel; omega
  have hsrc' := hsrc
  rw [← hzz] at hsrc'
  have hr := run_append_src_room P T ty _ ti ht hi (X.D s i).b (X.D s i).o len c arr h1 hsrc' (by omega) (by rw [hzz]; simpa using hal)
  rw [hzz] at hr
  refine ⟨_, hr, hI.turn hB (by simp [World.setRow]) rfl rfl rfl hfz hreal (fun b hbne => setRow_other w _ b _ hbne) ?_⟩
  intro hL
  have hlen : (B.els.take len ++ els2 ++ B.els.drop (len + els2.length)).length = B.els.length := by
    simp only [List.length_append, List.length_take, List.length_drop]; omega
  refine { hN := hb.hN, hz := hb.hz, hlen := by rw [hb.hlen]; exact hlen.symm, rows := ?_, mem := .inr ⟨_, cap', setRow_heap w _ arr _ B.ty _ h1, by simp only [hlen]; exact h2, by simp only [hlen]; exact h3, h4, ?_, ?_, h7, h8⟩ }
  · intro row hrow
    simp only [List.mem_append] at hrow
    rcases hrow with (hrow | hrow) | hrow
    · exact hb.rows row (List.mem_of_mem_take hrow)
    · exact hsrc.rows row hrow
    · exact hb.rows row (List.mem_of_mem_drop hrow)
  · simp only [List.size_toArray, List.length_append, List.length_take, List.length_drop, Array.length_toList]
    simp at hal; omega
  · intro e' j' row c he' hj'
    simp only at he'
    simp only [List.getElem?_toArray]
    rw [seg_get _ _ _ _ hal]
    rw [List.getElem?_append, List.getElem?_append] at he'
    simp only [List.length_append, List.length_take] at he'
    have hmin : min len B.els.length = len := by omega
    rw [hmin] at he'
    by_cases c1 : e' < len
    · rw [if_pos (by omega), if_pos c1, List.getElem?_take_of_lt c1] at he'
      obtain ⟨u, g1, g2, g3, g4⟩ := h6 e' j' row c he' hj'
      have hj2 : j' < B.z := by rw [← hb.rows row (List.mem_of_getElem? he')]; exact (List.getElem?_eq_some_iff.1 hj').1
      refine ⟨u, ?_, g2, g3.mono hL (Xle.refl X), fun hcl => (g4 (by simp at hcl; exact hcl.1)).mono hL⟩
      have := idx_lt c1 hj2
      rw [if_pos (by omega)]; simpa using g1
    · by_cases c2 : e' < len + els2.length
      · rw [if_pos c2, if_neg c1] at he'
        obtain ⟨u, g1, g3, g4⟩ := hsrc.cells _ j' row c he' hj'
        have hj2 : j' < B.z := by rw [← hsrc.rows row (List.mem_of_getElem? he')]; exact (List.getElem?_eq_some_iff.1 hj').1
        have k1 : len * B.z ≤ e' * B.z := Nat.mul_le_mul_right _ (by omega)
        have k2 : (e' - len) * B.z = e' * B.z - len * B.z := Nat.sub_mul ..
        have k3 : (e' - len) * B.z + j' < news.length := (List.getElem?_eq_some_iff.1 g1).1
        refine ⟨u, ?_, hsrc.one u (List.mem_of_getElem? g1), g3.mono hL (Xle.refl X), fun hcl => (g4 (by simp at hcl; exact hcl.2)).mono hL⟩
        rw [if_neg (by omega), if_pos (by omega), show (X.D s i).o + e' * B.z + j' - ((X.D s i).o + len * B.z) = (e' - len) * B.z + j' by omega]
        exact g1
      · rw [if_neg c2, List.getElem?_drop, show len + els2.length + (e' - (len + els2.length)) = e' by omega] at he'
        obtain ⟨u, g1, g2, g3, g4⟩ := h6 e' j' row c he' hj'
        have k1 : (len + els2.length) * B.z ≤ e' * B.z := Nat.mul_le_mul_right _ (by omega)
        rw [Nat.add_mul, ← hsrc.len] at k1
        refine ⟨u, ?_, g2, g3.mono hL (Xle.refl X), fun hcl => (g4 (by simp at hcl; exact hcl.1)).mono hL⟩
        rw [if_neg (by omega), if_neg (by omega)]; simpa using g1

end
end Go.Sx
end
