/- A part of a proof; no conditions. -/
import Derived.Test.YtomgmojjdgiieaaGreatP01
set_option linter.unusedSimpArgs false
set_option linter.unusedVariables false
set_option linter.unusedSectionVars false
section
/- The abstract weakest precondition of code. No conditions. -/
namespace Go.Sx
open Go.RowKit
variable [Gls]
inductive Ex where
  | normal
  | exit (id : Nat)
  | ret
def HLe (h h' : Hp) : Prop := ((∀ s i B, hget h' s i = some B → hget h s i = some B) ∧ ∀ s, hnext h s ≤ hnext h' s) ∧ h' YS = h YS ∧ ∀ s, (h' s).mps = (h s).mps
def TLe (t t' : Nat → Bool × V) : Prop := ∀ k, t' k = (true, .top) ∨ t' k = t k ∨ ∃ x, t k = (true, x) ∧ ∃ y, t' k = (true, y) ∧ sub x y
structure StLe (st st' : St) : Prop where
  t : TLe st.t st'.t
  h : HLe st.h st'.h
def hfl (h : Hp) (b : Bool) (s : Nat) : Site := if s = YS then { base := hnext h YS, blks := [], fl := b, mps := (h YS).mps } else h s
inductive Gh : St → St → Prop
  | refl (st : St) : Gh st st
  | nil (st st' : St) (k key z : Nat) (ty : TypeId) (hk : st.t k = (true, .nil)) (hz : 0 < z) (hy : key ≠ YS) (h : Gh { t := upd st.t (some k) (true, .bsl key (hnext st.h key) 0), h := hpush st.h key { z := z, els := [], ty := ty } } st') : Gh st st'
def FreeAt (E : Env) (o : Oper) (st : St) : Prop := ∀ h h', sem E (o.dst.getD 0) o.op (ev2 st) h' = { sem E (o.dst.getD 0) o.op (ev2 st) h with h := h' }
def FzOk (o : Oper) (st : St) : Prop := match o.op with
  | .load _ a => match ev2 st a with
    | .bptr s i _ _ _ => match hget st.h s i with
      | some B => B.fz = true
      | none => False
    | _ => False
  | _ => False
def nilApp (c : Call) : Bool := match c.callee, c.args.toList with
  | .builtin .append, [.const (.slice none 0 0), _] => true
  | _, _ => false
def pusher (o : Oper) : Bool := match o.op with
  | .alloc _ | .box .. | .makeSlice .. | .buildSlice .. => true
  | .call c => nilApp c
  | _ => false
def NwOk (o : Oper) (st : St) : Prop := match o.op with
  | .call c => match c.callee, c.args.toList, c.argTypes.toList with
    | .builtin .append, [.const (.slice none 0 0), x], [T, T2] => T2 = T ∧ match ev2 st x with
      | .sl _ _ | .nil => True
      | _ => False
    | _, _, _ => False
  | _ => False
def FoOk (E : Env) (ops : List Oper) (o : Oper) (st : St) : Prop := match o.op with
  | .load _ a => match ev2 st a with
    | .bptr s _ _ _ _ => (ops.all fun q => !pusher q || E.key + q.dst.getD 0 != s) = true
    | _ => False
  | .indexAddr _ a _ => match ev2 st a with
    | .bptr s _ _ _ _ | .bsl s _ _ | .osl s _ _ _ _ _ => (ops.all fun q => !pusher q || E.key + q.dst.getD 0 != s) = true
    | _ => False
  | _ => False
abbrev Alts := List (Nat × (List Nat × List (List Nat)))
def runI (E : Env) (ops : List Oper) (fr : List Nat) : List Nat → St → Prop × St
  | [], st => (True, st)
  | i :: l, st => match ops[i]? with
    | none => runI E ops fr l st
    | some o => ((((fr.contains i = true → FreeAt E o st) ∧ (fr.contains (i + 1000) = true → FzOk o st) ∧ (fr.contains (i + 2000) = true → FoOk E ops o st) ∧ (fr.contains (i + 3000) = true → NwOk o st)) ∧ (step E ops o st).1) ∧ (runI E ops fr l (step E ops o st).2).1, (runI E ops fr l (step E ops o st).2).2)
def runs (E : Env) (ops : List Oper) (fr : List Nat) : List (List Nat) → St → (St → Prop) → Prop
  | [], _, _ => True
  | l :: r, st, K => ((runI E ops fr l st).1 ∧ K (runI E ops fr l st).2) ∧ runs E ops fr r st K
def frz1 (h : Hp) : V → Prop × Hp
  | .bptr s i _ _ _ | .bsl s i _ => match hget h s i with
    | some B => (True, hset h s i { B with fz := true })
    | none => (False, h)
  | _ => (False, h)
def frzP (k : Nat) (st : St) : Prop × St := (((st.t k).2.leaf = true ∧ (lend1 st.h (st.t k).2).1) ∧ fzN 3 st.h (st.t k).2, { t := upd st.t (some k) ((st.t k).1, (lend1 st.h (st.t k).2).2), h := st.h })
def frzW (q : Nat) (st : St) : Prop × St := match st.t (q % 1000) with
  | (g, .osl s i n off len cap) => match hget st.h s i with
    | some B => ((g = true ∧ q / 1000 ≠ 999999999) ∧ B.fz = false ∧ n = B.els.length ∧ off + len ≤ n ∧ len ≤ cap ∧ B.els ≠ [], { t := upd st.t (some (q % 1000)) (g, .bsl (q / 1000) (hnext st.h (q / 1000)) len), h := hpush (hcut st.h s i) (q / 1000) { B with els := (B.els.drop off).take len } })
    | none => (False, st)
  | (g, .bsl s i n) => match hget st.h s i with
    | some B => ((g = true ∧ q / 1000 ≠ 999999999) ∧ B.fz = false ∧ n = B.els.length ∧ B.els ≠ [], { t := upd st.t (some (q % 1000)) (g, .bsl (q / 1000) (hnext st.h (q / 1000)) n), h := hpush (hcut st.h s i) (q / 1000) B })
    | none => (False, st)
  | (_, .nil) | (_, .sl ..) | (_, .emp) => (True, st)
  | _ => (False, st)
def frzK (k : Nat) (st : St) : Prop × St := if 1000000 ≤ k then frzW (k - 1000000) st else if 100000 ≤ k then (True, { t := st.t, h := frzH st.h (k - 100000) }) else if 50000 ≤ k then frzP (k - 50000) st else match frz1 st.h (st.t k).2 with
  | (c, h') => (c, { t := st.t, h := h' })
def frzs : List Nat → St → Prop × St
  | [], st => (True, st)
  | k :: r, st => match frzK k st with
    | (c, st') => match frzs r st' with
      | (c', st'') => (c ∧ c', st'')
def setT (t : Nat → Bool × V) : List Nat → List V → Nat → Bool × V
  | p :: ps, x :: xs => setT (upd t (some p) (true, x)) ps xs
  | _, _ => t
def awp (E : Env) (ok : Alts) : Code → St → (Ex → St → Prop) → Prop
  | .skip, st, Q => Q .normal st
  | .region id ops draw, st, Q => match frzs (lkf E.frz id) st with
    | (c0, st) => c0 ∧ match draw, ok.lookup id with
      | true, some (fr, cs) => runs E ops.toList fr cs st fun st' => Q .normal st'
      | _, _ => match runL E ops.toList ops.toList st with
        | (c, st') => c ∧ Q .normal st'
  | .seq a b, st, Q => awp E ok a st fun e st' => match e with
    | .normal => awp E ok b st' Q
    | e => Q e st'
  | .cond c x y, st, Q => match ev st c with
    | (g, .bool b) => g = true ∧ (b = true → awp E ok x st Q) ∧ (b = false → awp E ok y st Q)
    | (g, .anyb) => g = true ∧ awp E ok x st Q ∧ awp E ok y st Q
    | _ => False
  | .block id c, st, Q => awp E ok c st fun e st' => match e with
    | .exit i => if i = id then Q .normal st' else Q (.exit i) st'
    | e => Q e st'
  | .loop c, st, Q => ∃ (ι : Type) (I : ι → St) (m : ι → Nat) (i0 : ι), (∃ st1, Gh st st1 ∧ StLe st1 (I i0)) ∧ ∀ i, awp E ok c (I i) fun e st' => match e with
    | .normal => ∃ j, StLe st' (I j) ∧ m j < m i
    | e => Q e st'
  | .exit id, st, Q => Q (.exit id) st
  | .ret, st, Q => Q .ret st
  | .rangeFunc g ps assign body, st, Q => E.yl = none ∧ ∃ (it : Nat) (caps : List V) (S : Nat → HSpec → HSpec) (Y : HSpec) (e0 : Ex),
      ((ev st g = (true, .fn it caps) ∧ E.fn it = some (.iter S)) ∧ (ps.toList.all fun p => decide (p < E.nt)) = true) ∧
      (∀ args h, (Y.go args h).c → ((h YS).blks = [] ∧ (h YS).fl = false) ∧ args.length = ps.size ∧ awp E ok assign { t := setT st.t ps.toList args, h := h } fun e st1 => match e with
        | .normal => awp E ok body st1 fun e st2 => match e with
          | .normal => (Y.go args h).v = .bool true ∧ HLe (hfl st2.h false) (Y.go args h).h
          | .ret => e0 = .ret ∧ (Y.go args h).v = .bool false ∧ HLe (hfl st2.h true) (Y.go args h).h
          | .exit id => e0 = .exit id ∧ (Y.go args h).v = .bool false ∧ HLe (hfl st2.h true) (Y.go args h).h
        | _ => False) ∧
      ∀ l, ((S l Y).go (.yld l :: caps) (hfl st.h false)).c ∧
        (((((S l Y).go (.yld l :: caps) (hfl st.h false)).h YS).fl = false → Q .normal { t := st.t, h := hfl ((S l Y).go (.yld l :: caps) (hfl st.h false)).h false }) ∧
         ((((S l Y).go (.yld l :: caps) (hfl st.h false)).h YS).fl = true → e0 ≠ .normal ∧ Q e0 { t := st.t, h := hfl ((S l Y).go (.yld l :: caps) (hfl st.h false)).h false }))
  | _, _, _ => False
end Go.Sx
end
section
/- What a related value looks like; new blocks; stores into owned blocks. No conditions. -/
namespace Go.Sx
open Go.RowKit
variable [Gls]
section inv
variable {w : World} {A : Nat → Prop} {X : Refs}
omit [Gls] in
theorem RV.int_inv {k : IntKind} {n : Int} {u : Value} (h : RV w A X (.int k n) u) : u = .int k n := by
  cases h with | pure h => cases h; rfl
omit [Gls] in
theorem RV.bool_inv {b : Bool} {u : Value} (h : RV w A X (.bool b) u) : u = .bool b := by
  cases h with | pure h => cases h; rfl
omit [Gls] in
theorem RV.anyb_inv {u : Value} (h : RV w A X .anyb u) : ∃ b, u = .bool b := by
  cases h with | pure h => cases h; exact ⟨_, rfl⟩
omit [Gls] in
theorem RV.nil_inv {u : Value} (h : RV w A X .nil u) : u = .slice none 0 0 := by
  cases h with | pure h => cases h; rfl
omit [Gls] in
theorem RV.nilp_inv {u : Value} (h : RV w A X .nilp u) : u = .pointer none := by
  cases h with | pure h => cases h; rfl
omit [Gls] in
theorem RV.nilf_inv {u : Value} (h : RV w A X .nilf u) : u = .nilFunc := by
  cases h with | pure h => cases h; rfl
omit [Gls] in
theorem RV.sl_inv {z : Nat} {els : List (List V)} {u : Value} (h : RV w A X (.sl z els) u) : PV w A (.sl z els) u := by
  cases h with | pure h => exact h
omit [Gls] in
theorem RV.ip_inv {z : Nat} {els : List (List V)} {e j : Nat} {u : Value} (h : RV w A X (.ip z els e j) u) : PV w A (.ip z els e j) u := by
  cases h with | pure h => exact h
omit [Gls] in
theorem RV.agg_inv {cs : List V} {u : Value} (h : RV w A X (.agg cs) u) : ∃ us : Array Value, u = .agg us ∧ us.size = cs.length ∧ ∀ i c, cs[i]? = some c → RV w A X c (us.getD i und) := by
  cases h with
  | pure h => cases h with | agg cs us hl h => exact ⟨us, rfl, hl, fun i c hc => .pure (h i c hc)⟩
  | agg cs us hl h => exact ⟨us, rfl, hl, h⟩
omit [Gls] in
theorem RV.tup_inv {cs : List V} {u : Value} (h : RV w A X (.tup cs) u) : ∃ us : Array Value, u = .tuple us ∧ us.size = cs.length ∧ ∀ i c, cs[i]? = some c → RV w A X c (us.getD i und) := by
  cases h with
  | pure h => cases h with | tup cs us hl h => exact ⟨us, rfl, hl, fun i c hc => .pure (h i c hc)⟩
  | tup cs us hl h => exact ⟨us, rfl, hl, h⟩
omit [Gls] in
theorem RV.fn_inv {f : Nat} {cs : List V} {u : Value} (h : RV w A X (.fn f cs) u) : ∃ us : Array Value, u = .func (.func f) #[] us ∧ us.size = cs.length ∧ ∀ i c, cs[i]? = some c → RV w A X c (us.getD i und) := by
  cases h with
  | pure h => cases h with | fn f cs us hl h => exact ⟨us, rfl, hl, fun i c hc => .pure (h i c hc)⟩
  | fn f cs us hl h => exact ⟨us, rfl, hl, h⟩
omit [Gls] in
theorem RV.bsl_inv {s i n : Nat} {u : Value} (h : RV w A X (.bsl s i n) u) : ∃ a c, u = .slice a n c ∧ i < X.N s ∧ n ≤ (X.D s i).len ∧ (n = (X.D s i).len → Value.slice a n c = (X.D s i).v) := by
  cases h with
  | pure h => cases h
  | bsl _ _ _ a c hN hn hv => exact ⟨a, c, rfl, hN, hn, hv⟩
omit [Gls] in
theorem RV.bptr_inv {s i n e j : Nat} {u : Value} (h : RV w A X (.bptr s i n e j) u) : ∃ a, u = .pointer (some a) ∧ i < X.N s ∧ n ≤ (X.D s i).len ∧ (n = (X.D s i).len → a = ⟨(X.D s i).b, (X.D s i).o + e * (X.D s i).z + j, none⟩) := by
  cases h with
  | pure h => cases h
  | bptr _ _ _ _ _ a hN hn hv => exact ⟨a, rfl, hN, hn, hv⟩
omit [Gls] in
theorem RV.osl_inv {s i n off len cap : Nat} {u : Value} (h : RV w A X (.osl s i n off len cap) u) : ∃ a c, u = .slice (some a) len c ∧ cap ≤ c ∧ i < X.N s ∧ n ≤ (X.D s i).len ∧ (n = (X.D s i).len → a = ⟨(X.D s i).b, (X.D s i).o + off * (X.D s i).z, none⟩ ∧ off + c ≤ (X.D s i).cap) := by
  cases h with
  | pure h => cases h
  | osl _ _ _ _ _ _ a c hcc hN hn hv => exact ⟨a, c, rfl, hcc, hN, hn, hv⟩
omit [Gls] in
theorem RV.emp_inv {u : Value} (h : RV w A X .emp u) : ∃ a, u = .slice (some a) 0 0 := by
  cases h with
  | pure h => cases h with
    | emp a => exact ⟨a, rfl⟩
omit [Gls] in
theorem RV.bmp_inv {s i : Nat} {u : Value} (h : RV w A X (.bmp s i) u) : u = .map (some (X.M s i)) ∧ i < X.K s := by
  cases h with
  | pure h => cases h
  | bmp _ _ hK => exact ⟨rfl, hK⟩
omit [Gls] in
theorem RV.mpi_inv {m : Mp} {u : Value} (h : RV w A X (.mpi m) u) : ∃ r es clk, u = .map (some r) ∧ w.heap[r]? = some (Obj.map es clk) ∧ ¬ A r ∧ MpOK es m := by
  cases h with
  | pure h => cases h with | mpi _ r es clk hr hA hm => exact ⟨r, es, clk, rfl, hr, hA, hm⟩
omit [Gls] in
theorem RV.len_inv {x : V} {n : Nat} {u : Value} (h : RV w A X x u) (hx : x.len = some n) : ∃ a c, u = .slice a n c := by
  cases x <;> simp only [V.len, Option.some.injEq, reduceCtorEq] at hx
  · subst hx; exact ⟨none, 0, h.nil_inv⟩
  · subst hx
    have h' := h.sl_inv
    cases h' with
    | sl0 z a cap => exact ⟨a, cap, rfl⟩
    | sl z els b off cap u hcap => exact ⟨_, cap, rfl⟩
  · subst hx; obtain ⟨a, c, rfl, _⟩ := h.bsl_inv; exact ⟨a, c, rfl⟩
  · subst hx; obtain ⟨a, c, rfl, _⟩ := h.osl_inv; exact ⟨_, _, rfl⟩
  · subst hx; obtain ⟨a, rfl⟩ := h.emp_inv; exact ⟨_, _, rfl⟩
omit [Gls] in
theorem PV.one {x : V} {u : Value} (h : PV w A x u) (hx : x.cell1 = true) : u.oneCell' = true := by
  cases h <;> simp_all [V.cell1, Value.oneCell']
omit [Gls] in
theorem RV.one {x : V} {u : Value} (h : RV w A X x u) (hx : x.cell1 = true) : u.oneCell' = true := by
  cases h with
  | pure h => exact h.one hx
  | agg => simp [V.cell1] at hx
  | tup => simp [V.cell1] at hx
  | fn => rfl
  | bsl => rfl
  | bptr => rfl
  | osl => rfl
  | bmp => rfl
omit [Gls] in
theorem PV.of_refFree1 {x : V} {u : Value} (h : RV w A X x u) (hx : x.refFree1 = true) : PV w A x u := by
  cases h with
  | pure h => exact h
  | agg => simp [V.refFree1] at hx
  | tup => simp [V.refFree1] at hx
  | fn f cs us hl h =>
    cases cs with
    | nil => exact .fn f [] us hl (by simp)
    | cons c cs => simp [V.refFree1] at hx
  | bsl => simp [V.refFree1] at hx
  | bptr => simp [V.refFree1] at hx
  | osl => simp [V.refFree1] at hx
  | bmp => simp [V.refFree1] at hx
omit [Gls] in
theorem PV.of_refFree {x : V} {u : Value} (h : RV w A X x u) (hx : x.refFree = true) : PV w A x u := by
  cases h with
  | pure h => exact h
  | agg cs us hl h =>
    simp only [V.refFree, List.all_eq_true] at hx
    exact .agg cs us hl fun i c hc => .of_refFree1 (h i c hc) (hx c (List.mem_of_getElem? hc))
  | tup cs us hl h =>
    simp only [V.refFree, List.all_eq_true] at hx
    exact .tup cs us hl fun i c hc => .of_refFree1 (h i c hc) (hx c (List.mem_of_getElem? hc))
  | fn f cs us hl h =>
    simp only [V.refFree, List.all_eq_true] at hx
    exact .fn f cs us hl fun i c hc => .of_refFree1 (h i c hc) (hx c (List.mem_of_getElem? hc))
  | bsl => simp [V.refFree, V.refFree1] at hx
  | bptr => simp [V.refFree, V.refFree1] at hx
  | osl => simp [V.refFree, V.refFree1] at hx
  | bmp => simp [V.refFree, V.refFree1] at hx
def CellsOK (w : World) (A : Nat → Prop) (X : Refs) (cs : List V) (us : Array Value) : Prop :=
  us.size = cs.length ∧ ∀ (j : Nat) (c : V), cs[j]? = some c → ∃ u, us[j]? = some u ∧ u.oneCell' = true ∧ RV w A X c u
omit [Gls] in
theorem cells_of_one {u : Value} (h : u.oneCell' = true) : u.cells = #[u] := by
  cases u <;> simp_all [Value.cells, Value.oneCell']
omit [Gls] in
theorem RV.cells {x : V} {u : Value} (h : RV w A X x u) (hx : x.cells.all V.cell1 = true) : CellsOK w A X x.cells u.cells := by
  simp only [List.all_eq_true] at hx
  by_cases ha : ∃ cs, x = .agg cs
  · obtain ⟨cs, rfl⟩ := ha
    obtain ⟨us, rfl, hl, hc⟩ := h.agg_inv
    simp only [V.cells, Value.cells] at hx ⊢
    refine ⟨hl, fun j c hj => ?_⟩
    have hlt : j < us.size := by rw [hl]; exact (List.getElem?_eq_some_iff.1 hj).1
    have := hc j c hj
    rw [Array.getD_eq_getD_getElem?, Array.getElem?_eq_getElem hlt, Option.getD_some] at this
    exact ⟨us[j], Array.getElem?_eq_getElem hlt, this.one (hx c (List.mem_of_getElem? hj)), this⟩
  · have hxc : x.cells = [x] := by cases x <;> first | rfl | exact absurd ⟨_, rfl⟩ ha
    rw [hxc] at hx ⊢
    have h1 := h.one (hx x (by simp))
    rw [cells_of_one h1]
    refine ⟨rfl, fun j c hj => ?_⟩
    cases j with
    | zero => simp at hj; subst hj; exact ⟨u, by simp, h1, h⟩
    | succ j => simp at hj
end inv
omit [Gls] in
theorem addr_add (b o n : Nat) : (⟨b, o, none⟩ : Addr).add n = ⟨b, o + n, none⟩ := by
  unfold Addr.add; split <;> simp_all
section alloc
variable {F : Fr} {w : World} {A : Nat → Prop} {X : Refs} {h : Hp}
def refsNew (w : World) (X : Refs) (h : Hp) (s : Nat) (B : Blk) (cap : Nat) : Refs :=
  { M := X.M, K := X.K, D := fun s' i' => if s' = s ∧ i' = hnext h s then { b := w.heap.size, z := B.z, len := B.els.length, v := .slice (some ⟨w.heap.size, 0, none⟩) B.els.length cap } else X.D s' i',
    N := fun s' => if s' = s then hnext h s + 1 else X.N s' }
theorem Inv.xle_new (hI : Inv F w A X h) (s : Nat) (B : Blk) (cap : Nat) : Xle X (refsNew w X h s B cap) := by
  refine ⟨?_, .same rfl rfl⟩
  intro s' i' hi
  have := hI.nb s'
  constructor
  · simp only [refsNew]; split
    · rename_i hs; subst hs; omega
    · exact hi
  · left
    simp only [refsNew]
    rw [if_neg]
    rintro ⟨rfl, rfl⟩
    omega
theorem Inv.later_alloc (_hI : Inv F w A X h) (o : Obj) : Later w A (w.alloc o) (fun b => A b ∨ b = w.heap.size) :=
  ⟨by simp, fun b hb hA => ⟨Below.heap_alloc w o b hb, fun hh => by rcases hh with hh | hh; exact hA hh; omega⟩⟩
theorem Inv.alloc (hI : Inv F w A X h) (s : Nat) (B : Blk) (arr : Array Value) (cap : Nat) (hfz : B.fz = false) (hcap : B.els.length ≤ cap) (hm : cap ≤ maxLen) (hrows : ∀ row ∈ B.els, row.length = B.z)
    (hsz : arr.size = cap * B.z)
    (hc : ∀ e j row c, B.els[e]? = some row → row[j]? = some c → ∃ u, arr[e * B.z + j]? = some u ∧ u.oneCell' = true ∧ RV w A X c u ∧ (B.cl = true → PV w A c u)) :
    Inv F (w.alloc (.cells arr B.ty)) (fun b => A b ∨ b = w.heap.size) (refsNew w X h s B cap) (hpush h s B) := by
  have hL := hI.later_alloc (.cells arr B.ty)
  have hX := hI.xle_new s B cap
  refine { gl := hI.gl.mono hL, abd := ?_, aold := ?_, akeep := ?_, os := hI.os, tape := hI.tape, output := hI.output, size := ?_, same := ?_, xle := hI.xle.trans hX, nb := ?_, mi := hI.mi.step (mps_push h s · B) rfl rfl (fun b es clk hb => by rw [Below.heap_alloc w _ _ (Array.getElem?_eq_some_iff.1 hb).1]; exact hb) (fun b _ _ _ hb => .inl hb), blk := ?_, inj := ?_ }
  · rintro b (hb | rfl)
    · have := hI.abd b hb; simp; omega
    · simp
  · rintro b hb (h1 | rfl)
    · exact hI.aold b hb h1
    · have := hI.size; omega
  · intro b hb h1 h2; exact .inl (hI.akeep b hb h1 h2)
  · have := hI.size; simp; omega
  · intro b hb hM
    have := hI.size
    rw [Below.heap_alloc w _ b (by omega)]
    exact hI.same b hb hM
  · intro s'
    rw [hnext_push]
    simp only [refsNew]
    have := hI.nb s'
    split
    · rename_i hs; subst hs; omega
    · omega
  · intro s' i' B' hB'
    by_cases hnew : s' = s ∧ i' = hnext h s
    · obtain ⟨rfl, rfl⟩ := hnew
      rw [hget_push_new] at hB'
      obtain rfl := Option.some.inj hB'
      have hD : (refsNew w X h s' B cap).D s' (hnext h s') = { b := w.heap.size, z := B.z, len := B.els.length, v := .slice (some ⟨w.heap.size, 0, none⟩) B.els.length cap } := by simp [refsNew]
      refine { hN := by simp [refsNew], hz := by rw [hD], hlen := by rw [hD], rows := hrows, mem := .inr ⟨arr, cap, ?_, ?_, hcap, hm, by rw [hD, hsz, Nat.zero_add]; exact Nat.le_refl _, ?_, ?_, ?_⟩ }
      · rw [hD]; exact heap_alloc_new w _
      · rw [hD]
      · intro e j row c he hj
        obtain ⟨u, h1, h2, h3, h4⟩ := hc e j row c he hj
        exact ⟨u, by rw [hD, Nat.zero_add]; exact h1, h2, h3.mono hL hX, fun hcl => (h4 hcl).mono hL⟩
      · rw [hfz]; simp
      · intro _; rw [hD]; exact ⟨.inr rfl, .inr hI.size⟩
    · rw [hget_push_old h s s' i' B (fun e hi => hnew ⟨e, hi⟩)] at hB'
      have ho := hI.blk s' i' B' hB'
      have hD : (refsNew w X h s B cap).D s' i' = X.D s' i' := by simp only [refsNew]; rw [if_neg hnew]
      refine { hN := (hX.1 s' i' ho.hN).1, hz := by rw [hD]; exact ho.hz, hlen := by rw [hD]; exact ho.hlen, rows := ho.rows, mem := ?_ }
      rw [hD]
      rcases ho.mem with hm' | ⟨arr', cap', h1, h2, h3, h4, h5, h6, h7, h8⟩
      · exact .inl hm'
      · have hlt : (X.D s' i').b < w.heap.size := (Array.getElem?_eq_some_iff.1 h1).1
        refine .inr ⟨arr', cap', ?_, h2, h3, h4, h5, ?_, ?_, ?_⟩
        · rw [Below.heap_alloc w _ _ hlt]; exact h1
        · intro e j row c he hj
          obtain ⟨u, g1, g2, g3, g4⟩ := h6 e j row c he hj
          exact ⟨u, g1, g2, g3.mono hL hX, fun hcl => (g4 hcl).mono hL⟩
        · rintro hf (hb | hb)
          · exact h7 hf hb
          · omega
        · intro hf; exact ⟨.inl (h8 hf).1, (h8 hf).2⟩
  · intro s1 i1 B1 s2 i2 B2 hb1 hb2 hr1 hr2 heq
    have key : ∀ s' i' B', hget (hpush h s B) s' i' = some B' → ((refsNew w X h s B cap).D s' i').real → (s' = s ∧ i' = hnext h s ∧ ((refsNew w X h s B cap).D s' i').b = w.heap.size) ∨ (hget h s' i' = some B' ∧ (refsNew w X h s B cap).D s' i' = X.D s' i' ∧ (X.D s' i').b < w.heap.size) := by
      intro s' i' B' hB' hr
      by_cases hnew : s' = s ∧ i' = hnext h s
      · left; exact ⟨hnew.1, hnew.2, by simp [refsNew, hnew]⟩
      · right
        rw [hget_push_old h s s' i' B (fun e hi => hnew ⟨e, hi⟩)] at hB'
        have ho := hI.blk s' i' B' hB'
        have hD : (refsNew w X h s B cap).D s' i' = X.D s' i' := by simp only [refsNew]; rw [if_neg hnew]
        refine ⟨hB', hD, ?_⟩
        rw [hD] at hr
        rcases ho.mem with hm' | ⟨arr', cap', h1, _⟩
        · exact absurd hm'.1 hr
        · exact (Array.getElem?_eq_some_iff.1 h1).1
    rcases key s1 i1 B1 hb1 hr1 with ⟨e1, e1', e1''⟩ | ⟨g1, d1, l1⟩ <;> rcases key s2 i2 B2 hb2 hr2 with ⟨e2, e2', e2''⟩ | ⟨g2, d2, l2⟩
    · exact ⟨e1.trans e2.symm, e1'.trans e2'.symm⟩
    · rw [e1'', d2] at heq; omega
    · rw [e2'', d1] at heq; omega
    · rw [d1, d2] at heq
      rw [d1] at hr1; rw [d2] at hr2
      exact hI.inj s1 i1 B1 s2 i2 B2 g1 g2 hr1 hr2 heq
end alloc
end Go.Sx
end
