/- A part of a proof; no conditions. -/
import Derived.Test.YtnpdjaikmdagmaaP09
import Derived.WalkKit
set_option linter.unusedSimpArgs false
set_option linter.unusedVariables false
set_option linter.unusedSectionVars false
section
/- The simp set of the walk. No conditions. -/
namespace Go.Sx
variable [Gls]
@[simp] theorem upds_cons (d : Nat) (x : Bool × V) (L : List (Nat × (Bool × V))) (T : Nat → Bool × V) (k : Nat) : upds ((d, x) :: L) T k = if k = d then x else upds L T k := rfl
@[simp] theorem upds_nil (T : Nat → Bool × V) (k : Nat) : upds [] T k = T k := rfl
@[simp] theorem forget_app (ws : List Nat) (T : Nat → Bool × V) (k : Nat) : forget ws T k = if ws.contains k = true then (true, .top) else T k := rfl
@[simp] theorem topT_app (k : Nat) : topT k = (true, .top) := rfl
@[simp] theorem entry_eq (args : List V) (h : Hp) : entry args h = { t := upds (zipT 0 args) topT, h := h } := rfl
/-- Keeps the simplifier out of the rest. -/
inductive Tg {α : Type} (q : α) : Type where
  | mk : Tg q
/-- A condition to show, then the rest; the walk stops here until it is shown. -/
def Also (c : Prop) (st : St) (k : St → Prop) (_ : Tg k) : Prop := c ∧ k st
/-- The rest, under a condition; the walk stops here until the condition is known. -/
def Hold (c : Prop) (st : St) (k : St → Prop) (_ : Tg k) : Prop := c → k st
@[simp] theorem also_true (st : St) (k : St → Prop) (t : Tg k) : Also True st k t = k st := by simp [Also]
@[simp] theorem hold_true (st : St) (k : St → Prop) (t : Tg k) : Hold True st k t = k st := by simp [Hold]
@[simp] theorem hold_false (st : St) (k : St → Prop) (t : Tg k) : Hold False st k t = True := by simp [Hold]
omit [Gls] in
theorem Also.intro {c : Prop} {st : St} {k : St → Prop} {t : Tg k} (h : c) (h' : c → k st) : Also c st k t := ⟨h, h' h⟩
omit [Gls] in
theorem Hold.intro {c : Prop} {st : St} {k : St → Prop} {t : Tg k} (h : c → k st) : Hold c st k t := h
/-- Op by op. -/
def runC (E : Env) (all : List Oper) : List Oper → St → (St → Prop) → Prop
  | [], st, K => K st
  | o :: r, st, K => match step E all o st with
    | (c, st') => Also c st' (fun st' => runC E all r st' K) .mk
theorem runC_eq (E : Env) (all : List Oper) : ∀ (ops : List Oper) (st : St) (K : St → Prop), runC E all ops st K = ((runL E all ops st).1 ∧ K (runL E all ops st).2)
  | [], st, K => by simp [runC, runL]
  | o :: r, st, K => by
    rw [runC, runL]
    cases hs : step E all o st with
    | mk c st' =>
      simp only [Also]
      rw [runC_eq E all r st' K]
      simp [and_assoc]
@[simp ↓] theorem runC_nil (E : Env) (all : List Oper) (st : St) (K : St → Prop) : runC E all [] st K = K st := rfl
@[simp ↓] theorem runC_cons (E : Env) (all : List Oper) (o : Oper) (r : List Oper) (st : St) (K : St → Prop) : runC E all (o :: r) st K = (match step E all o st with
    | (c, st') => Also c st' (fun st' => runC E all r st' K) .mk) := rfl
def runIC (E : Env) (all : List Oper) (fr : List Nat) : List Nat → St → (St → Prop) → Prop
  | [], st, K => K st
  | i :: l, st, K => match all[i]? with
    | none => runIC E all fr l st K
    | some o => Also ((fr.contains i = true → FreeAt E o st) ∧ (fr.contains (i + 1000) = true → FzOk o st) ∧ (fr.contains (i + 2000) = true → FoOk E all o st) ∧ (fr.contains (i + 3000) = true → NwOk o st)) st (fun st => match step E all o st with
      | (c, st') => Also c st' (fun st' => runIC E all fr l st' K) .mk) .mk
theorem runIC_eq (E : Env) (all : List Oper) (fr : List Nat) : ∀ (l : List Nat) (st : St) (K : St → Prop), runIC E all fr l st K = ((runI E all fr l st).1 ∧ K (runI E all fr l st).2)
  | [], st, K => by simp [runIC, runI]
  | i :: l, st, K => by
    rw [runIC, runI]
    cases ho : all[i]? with
    | none => exact runIC_eq E all fr l st K
    | some o =>
      simp only [Also]
      rw [runIC_eq E all fr l _ K]
      simp [and_assoc]
def runsC (E : Env) (all : List Oper) (fr : List Nat) : List (List Nat) → St → (St → Prop) → Prop
  | [], _, _ => True
  | l :: r, st, K => runIC E all fr l st K ∧ runsC E all fr r st K
theorem runsC_eq (E : Env) (all : List Oper) (fr : List Nat) (cs : List (List Nat)) (st : St) (K : St → Prop) : runs E all fr cs st K = runsC E all fr cs st K := by
  induction cs with
  | nil => rfl
  | cons l r ih => simp only [runs, runsC, runIC_eq, ih]
@[simp ↓] theorem runIC_nil (E : Env) (all : List Oper) (fr : List Nat) (st : St) (K : St → Prop) : runIC E all fr [] st K = K st := rfl
@[simp ↓] theorem runIC_cons (E : Env) (all : List Oper) (fr : List Nat) (i : Nat) (l : List Nat) (st : St) (K : St → Prop) : runIC E all fr (i :: l) st K = (match all[i]? with
    | none => runIC E all fr l st K
    | some o => Also ((fr.contains i = true → FreeAt E o st) ∧ (fr.contains (i + 1000) = true → FzOk o st) ∧ (fr.contains (i + 2000) = true → FoOk E all o st) ∧ (fr.contains (i + 3000) = true → NwOk o st)) st (fun st => match step E all o st with
      | (c, st') => Also c st' (fun st' => runIC E all fr l st' K) .mk) .mk) := rfl
@[simp ↓] theorem runsC_nil (E : Env) (all : List Oper) (fr : List Nat) (st : St) (K : St → Prop) : runsC E all fr [] st K = True := rfl
@[simp ↓] theorem runsC_cons (E : Env) (all : List Oper) (fr : List Nat) (l : List Nat) (r : List (List Nat)) (st : St) (K : St → Prop) : runsC E all fr (l :: r) st K = (runIC E all fr l st K ∧ runsC E all fr r st K) := rfl
def lk : Alts → Nat → Option (List Nat × List (List Nat))
  | [], _ => none
  | (a, p) :: r, id => if id = a then some p else lk r id
@[simp] theorem lk_nil (id : Nat) : lk [] id = none := rfl
@[simp] theorem lk_cons (a : Nat) (p : List Nat × List (List Nat)) (r : Alts) (id : Nat) : lk ((a, p) :: r) id = if id = a then some p else lk r id := rfl
theorem lk_eq (id : Nat) : ∀ (ok : Alts), ok.lookup id = lk ok id
  | [] => rfl
  | (a, p) :: r => by
    rw [lk_cons, List.lookup]
    by_cases h : id = a
    · subst h; simp
    · have h' : (id == a) = false := by simpa using h
      rw [h', if_neg h]; exact lk_eq id r
@[simp] theorem lkf_nil (id : Nat) : lkf [] id = [] := rfl
@[simp] theorem lkf_cons (a : Nat) (p : List Nat) (r : List (Nat × List Nat)) (id : Nat) : lkf ((a, p) :: r) id = if id = a then p else lkf r id := rfl
/-- Some blocks are not written any more. -/
def frzC (l : List Nat) (st : St) (K : St → Prop) (_ : Tg K) : Prop := (frzs l st).1 ∧ K (frzs l st).2
@[simp] theorem frzC_nil (st : St) (K : St → Prop) (t : Tg K) : frzC [] st K t = K st := by simp [frzC, frzs]
@[simp] theorem frzC_cons (k : Nat) (r : List Nat) (st : St) (K : St → Prop) (t : Tg K) : frzC (k :: r) st K t = (match frzK k st with
    | (c, st') => Also c st' (fun st => frzC r st K t) .mk) := by
  simp only [frzC, frzs, Also]
  simp [and_assoc]
/-- A region whose order is drawn. -/
def drawC (o : Option (List Nat × List (List Nat))) (E : Env) (all : List Oper) (st : St) (K : St → Prop) (_ : Tg K) : Prop :=
  match o with
  | none => runC E all all st K
  | some (fr, cs) => runsC E all fr cs st K
@[simp] theorem drawC_none (E : Env) (all : List Oper) (st : St) (K : St → Prop) (t : Tg K) : drawC none E all st K t = runC E all all st K := rfl
@[simp] theorem drawC_some (E : Env) (all : List Oper) (st : St) (K : St → Prop) (t : Tg K) (fr : List Nat) (cs : List (List Nat)) : drawC (some (fr, cs)) E all st K t = runsC E all fr cs st K := rfl
section
variable (E : Env) (ok : Alts) (st : St) (Q : Ex → St → Prop)
@[simp ↓] theorem awp_skip : awp E ok .skip st Q = Q .normal st := rfl
@[simp ↓] theorem awp_ret : awp E ok .ret st Q = Q .ret st := rfl
@[simp ↓] theorem awp_exit (id : Nat) : awp E ok (.exit id) st Q = Q (.exit id) st := rfl
@[simp ↓] theorem awp_region (id : Nat) (ops : Array Oper) : awp E ok (.region id ops false) st Q = frzC (lkf E.frz id) st (fun st => runC E ops.toList ops.toList st (fun st' => Q .normal st')) .mk := by
  simp only [awp, frzC, runC_eq]
@[simp ↓] theorem awp_region_draw (id : Nat) (ops : Array Oper) : awp E ok (.region id ops true) st Q = frzC (lkf E.frz id) st (fun st => drawC (lk ok id) E ops.toList st (fun st' => Q .normal st') .mk) .mk := by
  rw [← lk_eq]
  simp only [awp, drawC, frzC]
  cases ok.lookup id with
  | none => simp only []; rw [runC_eq]
  | some p => obtain ⟨fr, cs⟩ := p; simp only []; rw [runsC_eq]
@[simp ↓] theorem awp_seq (a b : Code) : awp E ok (.seq a b) st Q = awp E ok a st fun e st' => match e with
    | .normal => awp E ok b st' Q
    | e => Q e st' := rfl
@[simp ↓] theorem awp_cond (c : Operand) (x y : Code) : awp E ok (.cond c x y) st Q = (match ev st c with
    | (g, .bool b) => g = true ∧ Hold (b = true) st (fun st => awp E ok x st Q) .mk ∧ Hold (b = false) st (fun st => awp E ok y st Q) .mk
    | (g, .anyb) => g = true ∧ awp E ok x st Q ∧ awp E ok y st Q
    | _ => False) := by
  simp only [awp, Hold]; rfl
@[simp ↓] theorem awp_block (id : Nat) (c : Code) : awp E ok (.block id c) st Q = awp E ok c st fun e st' => match e with
    | .exit i => if i = id then Q .normal st' else Q (.exit i) st'
    | e => Q e st' := rfl
end
omit [Gls] in
theorem hle_refl (h : Hp) : HLe h h = True := eq_true (HLe.refl h)
@[simp] theorem wrap_zero : IntKind.wrap .i64 0 = 0 := wrap_id (by omega) (by omega)
@[simp] theorem wrap_mone : IntKind.wrap .i64 (-1) = -1 := wrap_id (by omega) (by omega)
attribute [simp] appendV hps_over hps_cons hps_nil noH_app hpush_noH hpush_hps hset_hps hget_hps hnext_hps hnext_noH hget_noH
@[simp] theorem vite_true (x y : V) : vite true x y = x := by
  unfold vite
  split
  · rfl
  · split <;> simp_all
  · rfl
@[simp] theorem vite_false (x y : V) : vite false x y = y := by
  unfold vite
  split
  · rfl
  · split <;> simp_all
  · rfl
@[simp] theorem vite_bool (b p q : Bool) : vite b (.bool p) (.bool q) = .bool (if b then p else q) := rfl
@[simp] theorem vite_int (b : Bool) (k : IntKind) (m n : Int) : vite b (.int k m) (.int k n) = .int k (if b then m else n) := by simp [vite]
omit [Gls] in
@[simp] theorem V.len_emp : V.emp.len = some 0 := rfl
omit [Gls] in
@[simp] theorem V.len_nil : V.nil.len = some 0 := rfl
omit [Gls] in
@[simp] theorem V.len_sl (z : Nat) (els : List (List V)) : (V.sl z els).len = some els.length := rfl
omit [Gls] in
@[simp] theorem V.len_bsl (s i n : Nat) : (V.bsl s i n).len = some n := rfl
omit [Gls] in
@[simp] theorem V.len_osl (s i n off len cap : Nat) : (V.osl s i n off len cap).len = some len := rfl
attribute [simp] guardB_bool guardB_off preZ frzHs sClear frzW sCut sCopy takeV srcB hcut_hps frzK frzP frzH_hps fzCs fzRs V.at? fzN fzA FzOk FoOk NwOk nilApp pusher eqTs frz1 ghs ghc runL step sem guardV ev2 ev upd_upds upd_none dstOk valid allv Op.operands ofVal ofVal1 binV unkE hite_same hite_true hite_false zipT
  sAlloc sBox sBuild sBuildSlice sBuildE sLoad sStore sUn sConv sMakeSlice sFieldAddr sField sIndexAddr sIndex sLen sMax sAppendZ sCap sCall sExtract sPick sNil callF lends lend lend1 lendN lendB lendRs lendCs lends1 loadR splice fills fillRows asI optI foldMax sliceV eqV
  resV ressV retV okAll V.cells V.cell1 V.refFree V.refFree1 V.scal V.scal1 V.leaf V.argOk subs1 subs0 sub sub1 sub0
def sr (a n : Nat) : Nat := a >>> n
def an (a b : Nat) : Nat := a &&& b
def pw (n : Nat) : Nat := 2 ^ n
def orN (a b : Nat) : Nat := a ||| b
omit [Gls] in
theorem toNat_ofNat_i64 {a : Nat} (h : a < 9223372036854775808) : (BitVec.ofInt IntKind.i64.bits (a : Int)).toNat = a := by
  rw [show IntKind.i64.bits = 64 from rfl, BitVec.toNat_ofInt]; omega
omit [Gls] in
theorem bit_and {a b : Nat} (ha : a < 9223372036854775808) (hb : b < 9223372036854775808) : bitw .and .i64 (a : Int) (b : Int) = (an a b : Int) := by
  unfold an
  have h := Nat.and_le_left (n := a) (m := b)
  simp only [bitw, BitVec.toNat_and, toNat_ofNat_i64 ha, toNat_ofNat_i64 hb]
  exact wrap_id (by omega) (by omega)
omit [Gls] in
theorem bit_or {a b : Nat} (ha : a < 9223372036854775808) (hb : b < 9223372036854775808) : bitw .or .i64 (a : Int) (b : Int) = (orN a b : Int) := by
  unfold orN
  have h : a ||| b < 2 ^ 63 := Nat.or_lt_two_pow ha hb
  simp only [bitw, BitVec.toNat_or, toNat_ofNat_i64 ha, toNat_ofNat_i64 hb]
  exact wrap_id (by omega) (by omega)
omit [Gls] in
theorem bit_shr (a n : Nat) (hn : n < 64) : shrV .i64 (a : Int) (n : Int) = (sr a n : Int) := by
  unfold sr
  have e : min (n : Int).toNat IntKind.i64.bits = n := by rw [show IntKind.i64.bits = 64 from rfl, Int.toNat_natCast]; omega
  rw [shrV, e, Nat.shiftRight_eq_div_pow, Int.fdiv_eq_ediv_of_nonneg _ (by exact Int.le_of_lt (Int.pow_pos (by decide)))]
  norm_cast
omit [Gls] in
theorem bit_shl (n : Nat) (hn : n < 62) : shlV .i64 1 (n : Int) = (pw n : Int) := by
  unfold pw
  have e : min (n : Int).toNat IntKind.i64.bits = n := by rw [show IntKind.i64.bits = 64 from rfl, Int.toNat_natCast]; omega
  have h : 2 ^ n < 2 ^ 62 := Nat.pow_lt_pow_right (by decide) hn
  rw [shlV, e, Int.one_mul, show ((2 : Int) ^ n) = ((2 ^ n : Nat) : Int) by norm_cast]
  generalize 2 ^ n = x at *
  exact wrap_id (by omega) (by omega)
omit [Gls] in
theorem bit_one (a n : Nat) : an (sr a n) 1 = if a.testBit n then 1 else 0 := by
  unfold an sr
  have h := Nat.testBit_eq_decide_div_mod_eq (x := a) (i := n)
  rw [Nat.shiftRight_eq_div_pow, Nat.and_one_is_mod, h]
  by_cases e : a / 2 ^ n % 2 = 1
  · simp [e]
  · simp [e]; omega
theorem pb {E : Env} {ok : Alts} {fn : Func} {dom : Type} {enc : dom → List V} {dec : List V → dom} {pre : dom → Prop} {res : dom → V} (h : ∀ d : dom, pre d → awp E ok (fn.body.getD .skip) (entry (enc d) noH) fun e st => (e = .normal ∨ e = .ret) ∧ match retV E.P fn.results.toList st with
    | (c, v) => c ∧ sub v (res d)) (hyl : E.yl = none := by rfl) : PureBody E ok fn ⟨dom, enc, dec, pre, res⟩ := ⟨hyl, h⟩
end Go.Sx
end
section
/- From the walks to the contracts of functions; tables. No conditions. -/
set_option linter.unusedSimpArgs false
namespace Go.Sx
open Go.RowKit
variable [Gls]

def tbl (l : List (Nat × Spec)) (f : Nat) : Option Spec := (l.find? fun p => p.1 == f).map (·.2)
@[simp] theorem tbl_nil (f : Nat) : tbl [] f = none := rfl
@[simp] theorem tbl_cons (g : Nat) (S : Spec) (l : List (Nat × Spec)) (f : Nat) : tbl ((g, S) :: l) f = if g = f then some S else tbl l f := by
  simp only [tbl, List.find?_cons]
  by_cases h : g = f
  · subst h; simp
  · have : (g == f) = false := by simpa using h
    simp [this, h]

def LOK (P : Program) (l : List (Nat × Spec)) : Prop := ∀ p ∈ l, FnOK P p.1 p.2
theorem LOK.nil {P : Program} : LOK P [] := fun p h => by cases h
theorem LOK.cons {P : Program} {f : Nat} {S : Spec} {l : List (Nat × Spec)} (h : FnOK P f S) (k : LOK P l) : LOK P ((f, S) :: l) := by
  intro p hp
  rcases List.mem_cons.1 hp with rfl | hp
  · exact h
  · exact k p hp
theorem LOK.tbl {E : Env} {l : List (Nat × Spec)} (hE : E.fn = tbl l) (h : LOK E.P l) : TblOK E := by
  intro f S hf
  rw [hE] at hf
  unfold Sx.tbl at hf
  cases hx : l.find? fun p => p.1 == f with
  | none => simp [hx] at hf
  | some p =>
    simp [hx] at hf
    subst hf
    have h1 := h p (List.mem_of_find?_eq_some hx)
    have h2 := List.find?_some hx
    simp only [beq_iff_eq] at h2
    rw [← h2]; exact h1

omit [Gls] in
theorem run_call {P : Program} {f : FuncId} {fn : Func} {c : Code} (hf : P.funcs[f]? = some fn) (hn : (fn.name == "runtime.NumGoroutine") = false) (hb : fn.body = some c) (args : Array Value) (w : World) : (callFunc f args).run P w = .ok (.enter f args) w := by
  unfold callFunc
  simp only [Sem.run_bind, run_program, Result.andThen_ok, hf, hn, hb, Option.isNone_some, Bool.false_eq_true, if_false, Sem.run_pure]

theorem pure_fn {E : Env} {l : List (Nat × Spec)} (hE : E.fn = tbl l) (hl : LOK E.P l) {ok : Alts} {f : FuncId} {fn : Func} {S : PSpec} (hf : E.P.funcs[f]? = some fn) (hn : (fn.name == "runtime.NumGoroutine") = false) (hbs : fn.body.isSome = true) (hok : drawsOk E ok (fn.body.getD .skip) = true) (hnt : fn.ntmps = E.nt) (hlen : ∀ d, S.pre d → (S.enc d).length ≤ E.nt)
    (h : PureBody E ok fn S) : FnOK E.P f (.pure S) := by
  obtain ⟨c, hc⟩ := Option.isSome_iff_exists.1 hbs
  rw [hc] at hok
  exact { call := run_call hf hn hc, pure := fun S' hS => (by cases hS; exact pure_ok (hl.tbl hE) hf hc hok hnt hlen h), heap := fun S' hS => (by cases hS), iter := fun S' hS => (by cases hS) }

theorem heap_fn {E : Env} {l : List (Nat × Spec)} (hE : E.fn = tbl l) (hl : LOK E.P l) {ok : Alts} {f : FuncId} {fn : Func} {S : HSpec} (hf : E.P.funcs[f]? = some fn) (hn : (fn.name == "runtime.NumGoroutine") = false) (hbs : fn.body.isSome = true) (hok : drawsOk E ok (fn.body.getD .skip) = true) (hnt : fn.ntmps = E.nt) (hlen : ∀ args h, (S.go args h).c → args.length ≤ E.nt)
    (h : HeapBody E ok fn S) (hyl : E.yl = none := by rfl) : FnOK E.P f (.heap S) := by
  obtain ⟨c, hc⟩ := Option.isSome_iff_exists.1 hbs
  rw [hc] at hok
  exact { call := run_call hf hn hc, pure := fun S' hS => (by cases hS), heap := fun S' hS => (by cases hS; exact heap_ok (hl.tbl hE) hf hc hok hnt hlen h hyl), iter := fun S' hS => (by cases hS) }

theorem heap_fnG {E : Env} {l : List (Nat × Spec)} (hE : E.fn = tbl l) (hl : LOK E.P l) {ok : Alts} {f : FuncId} {fn : Func} {S : HSpec} (hf : E.P.funcs[f]? = some fn) (hn : (fn.name == "runtime.NumGoroutine") = false) (hbs : fn.body.isSome = true) (hok : drawsOk E ok (fn.body.getD .skip) = true) (hnt : fn.ntmps = E.nt) (hlen : ∀ args h, (S.go args h).c → args.length ≤ E.nt)
    (h : HeapBodyG E ok fn S) (hyl : E.yl = none := by rfl) : FnOK E.P f (.heap S) := by
  obtain ⟨c, hc⟩ := Option.isSome_iff_exists.1 hbs
  rw [hc] at hok
  exact { call := run_call hf hn hc, pure := fun S' hS => (by cases hS), heap := fun S' hS => (by cases hS; exact heap_okG (hl.tbl hE) hf hc hok hnt hlen h hyl), iter := fun S' hS => (by cases hS) }

theorem iter_fn {E : Env} {l : List (Nat × Spec)} (hE : E.fn = tbl l) (hl : LOK E.P l) {ok : Alts} {f : FuncId} {fn : Func} {S : Nat → HSpec → HSpec} (hf : E.P.funcs[f]? = some fn) (hn : (fn.name == "runtime.NumGoroutine") = false) (hbs : fn.body.isSome = true) (hok : ∀ l Y, drawsOk { E with yl := some (l, Y) } ok (fn.body.getD .skip) = true) (hnt : fn.ntmps = E.nt) (hlen : ∀ l Y args h, ((S l Y).go args h).c → args.length ≤ E.nt)
    (hkp : KeepY E) (h : IterBody E ok fn S) (hyl : E.yl = none := by rfl) (hkey : E.key + E.nt < YS := by decide) : FnOK E.P f (.iter S) := by
  obtain ⟨c, hc⟩ := Option.isSome_iff_exists.1 hbs
  rw [hc] at hok
  exact { call := run_call hf hn hc, pure := fun S' hS => (by cases hS), heap := fun S' hS => (by cases hS), iter := fun S' hS => (by cases hS; exact iter_ok (hl.tbl hE) hf hc hok hnt hlen hyl (fun d hd => by omega) hkp h) }

/-- A pointer into one immutable row. -/
def V.peek : V → V
  | .ip _ els e j => (els.getD e []).getD j .top
  | _ => .top
def V.caps : V → List V
  | .fn _ cs => cs
  | _ => []
def V.cs : V → List V
  | .agg cs => cs
  | _ => []
omit [Gls] in
theorem rowInt_ri : rowInt ∘ ri = id := by funext n; rfl
@[simp] theorem map_rowInt (l : List Int) : (l.map ri).map rowInt = l := by rw [List.map_map, rowInt_ri, List.map_id]
@[simp] theorem map_rowInt' (l : List Int) : l.map (rowInt ∘ ri) = l := by rw [rowInt_ri, List.map_id]
attribute [simp] V.peek V.caps V.cs V.toInt V.toBool V.toInts V.rows rowInt rawV rawsV rawR
omit [Gls] in
theorem ri_eq (n : Int) : ri n = [.int .i64 n] := rfl
end Go.Sx
end
section
/- Loops over functions: rules. No conditions. -/
set_option linter.unusedSimpArgs false
namespace Go.Sx
open Go.RowKit
variable [Gls]

omit [Gls] in
theorem hfl_ys (h : Hp) (b : Bool) : hfl h b YS = { base := hnext h YS, blks := [], fl := b } := by simp [hfl]
omit [Gls] in
theorem hfl_ne (h : Hp) (b : Bool) {k : Nat} (hk : k ≠ YS) : hfl h b k = h k := by simp [hfl, hk]
omit [Gls] in
theorem hfl_self {h : Hp} (h1 : (h YS).blks = []) (h2 : (h YS).fl = false) : hfl h false = h := by
  funext k
  unfold hfl
  split
  · rename_i e
    subst e
    cases hh : h YS with
    | mk base blks fl =>
      rw [hh] at h1 h2
      simp only at h1 h2
      subst h1 h2
      simp [hnext, hh]
  · rfl
omit [Gls] in
theorem hps_app (L L' : List (Nat × Site)) (H : Hp) : hps L (hps L' H) = hps (L ++ L') H := by
  funext k
  induction L with
  | nil => rfl
  | cons p L ih =>
    obtain ⟨a, S⟩ := p
    simp only [List.cons_append, hps]
    split
    · rfl
    · exact ih
omit [Gls] in
theorem hps_mem {L : List (Nat × Site)} {H H' : Hp} {k : Nat} (h : k ∈ L.map (·.1)) : hps L H k = hps L H' k := by
  induction L with
  | nil => simp at h
  | cons p L ih =>
    obtain ⟨a, S⟩ := p
    simp only [hps]
    split
    · rfl
    · rename_i hne
      refine ih ?_
      simp only [List.map_cons, List.mem_cons] at h
      rcases h with h | h
      · exact absurd h hne
      · exact h
omit [Gls] in
theorem hps_self {L : List (Nat × Site)} {H : Hp} (h : ∀ k ∈ L.map (·.1), H k = hps L noH k) : hps L H = H := by
  funext k
  by_cases hk : k ∈ L.map (·.1)
  · rw [h k hk]; exact hps_mem hk
  · exact hps_not hk

/-- What a round says of a heap is no matter of the iterator's own sites. -/
structure Loc (Y : HSpec) (own ro : List Nat) : Prop where
  loc : ∀ (L : List (Nat × Site)), (∀ k ∈ L.map (·.1), k ∈ own) → ∀ x h, (Y.go x h).c → (Y.go x (hps L h)).c ∧ (Y.go x (hps L h)).v = (Y.go x h).v ∧ (Y.go x (hps L h)).h = hps L (Y.go x h).h
  ro : ∀ x h, (Y.go x h).c → ∀ k ∈ ro, (Y.go x h).h k = h k
  vb : ∀ x h, (Y.go x h).c → ∃ b, (Y.go x h).v = .bool b
  ys : ∀ x h, (Y.go x h).c → ((h YS).blks = [] ∧ (h YS).fl = false) ∧ ((Y.go x h).v = .bool true → ((Y.go x h).h YS) = h YS)

omit [Gls] in
theorem Loc.go {Y : HSpec} {own ro : List Nat} (hL : Loc Y own ro) {x : List V} {h : Hp} (hc : (Y.go x h).c) {b : Bool} (hv : (Y.go x h).v = .bool b) (L : List (Nat × Site)) (hk : (L.map (·.1)).all (fun k => own.contains k) = true := by first | rfl | simp) :
    Y.go x (hps L h) = ⟨True, .bool b, hps L (Y.go x h).h⟩ := by
  obtain ⟨h1, h2, h3⟩ := hL.loc L (fun k hm => by have := List.all_eq_true.1 hk k hm; simpa [List.contains_eq_mem] using this) x h hc
  cases hy : Y.go x (hps L h) with
  | mk c v h' =>
    rw [hy] at h1 h2 h3
    simp only at h1 h2 h3
    rw [h2, hv, h3, eq_true h1]

/-- The rounds of a list, one by one, up to the first that says 'no more'. -/
def feed (Y : HSpec) : List (List V) → Hp → Prop × Hp
  | [], h => (True, h)
  | x :: r, h => match Y.go x h with
    | ⟨c, .bool true, h'⟩ => (c ∧ (feed Y r h').1, (feed Y r h').2)
    | ⟨c, .bool false, h'⟩ => (c, h')
    | ⟨_, _, h'⟩ => (False, h')
omit [Gls] in
theorem feed_cons (Y : HSpec) (x : List V) (r : List (List V)) (h : Hp) : feed Y (x :: r) h = match Y.go x h with
    | ⟨c, .bool true, h'⟩ => (c ∧ (feed Y r h').1, (feed Y r h').2)
    | ⟨c, .bool false, h'⟩ => (c, h')
    | ⟨_, _, h'⟩ => (False, h') := rfl
omit [Gls] in
theorem feed_step {Y : HSpec} {x : List V} {r : List (List V)} {h : Hp} (hf : (feed Y (x :: r) h).1) : (Y.go x h).c ∧ ∃ b, (Y.go x h).v = .bool b ∧
    (b = true → (feed Y r (Y.go x h).h).1 ∧ (feed Y (x :: r) h).2 = (feed Y r (Y.go x h).h).2) ∧ (b = false → (feed Y (x :: r) h).2 = (Y.go x h).h) := by
  rw [feed_cons] at hf ⊢
  cases hy : Y.go x h with
  | mk c v h' =>
    rw [hy] at hf
    cases v with
    | bool b =>
      cases b with
      | true => exact ⟨hf.1, true, rfl, fun _ => ⟨hf.2, rfl⟩, fun e => by cases e⟩
      | false => exact ⟨hf, false, rfl, (fun e => by cases e), fun _ => rfl⟩
    | _ => exact hf.elim

/-- An iterator's contract: what it yields. own: the sites of what it makes itself; ro: those that it reads. -/
def itS (own ro : List Nat) (dec : List V → Hp → Prop × List (List V)) (l : Nat) (Y : HSpec) : HSpec where
  go args h := match args with
    | .yld l' :: caps => ⟨l' = l ∧ Loc Y own ro ∧ (∀ k ∈ own, h k = { base := (h k).base, blks := [] }) ∧ (dec caps h).1 ∧ (feed Y (dec caps h).2 h).1, .tup [], hps (own.map fun k => (k, { base := (h k).base + 1000000, blks := [] })) (feed Y (dec caps h).2 h).2⟩
    | _ => ⟨False, .top, h⟩

theorem its_inv {own ro : List Nat} {dec : List V → Hp → Prop × List (List V)} {l : Nat} {Y : HSpec} {args : List V} {h : Hp} (hc : ((itS own ro dec l Y).go args h).c) : ∃ caps, args = .yld l :: caps ∧ Loc Y own ro ∧ (∀ k ∈ own, h k = { base := (h k).base, blks := [] }) ∧ (dec caps h).1 ∧ (feed Y (dec caps h).2 h).1 ∧
    ((itS own ro dec l Y).go args h).v = .tup [] ∧ ((itS own ro dec l Y).go args h).h = hps (own.map fun k => (k, { base := (h k).base + 1000000, blks := [] })) (feed Y (dec caps h).2 h).2 := by
  match args, hc with
  | .yld l' :: caps, hc =>
    obtain ⟨rfl, h2, h3, h4, h5⟩ := hc
    exact ⟨caps, rfl, h2, h3, h4, h5, rfl, rfl⟩

section
variable {σ : Type} (LC : σ → List (Nat × Site)) (keys : List Nat) (pre : σ → List V → Prop) (go : σ → List V → Bool) (nxt : σ → List V → σ)
/-- The heap holds, at the caller's sites, what s says. -/
def Mt (s : σ) (h : Hp) : Prop := ∀ k ∈ keys, h k = hps (LC s) noH k
open Classical in
/-- A loop's rounds: over the caller's own state. -/
noncomputable def mkY : HSpec where
  go args h := if hs : ∃ s, Mt LC keys s h then ⟨((h YS).blks = [] ∧ (h YS).fl = false) ∧ pre hs.choose args, .bool (go hs.choose args), hfl (hps (LC (nxt hs.choose args)) h) (!go hs.choose args)⟩ else ⟨False, .top, h⟩
def runS : σ → List (List V) → Prop × Bool × σ
  | s, [] => (True, true, s)
  | s, x :: r => match go s x with
    | true => (pre s x ∧ (runS (nxt s x) r).1, (runS (nxt s x) r).2)
    | false => (pre s x, false, nxt s x)
variable {LC keys pre go nxt}
variable (inj : ∀ s s', (∀ k ∈ keys, hps (LC s) noH k = hps (LC s') noH k) → s = s')
include inj
omit [Gls] in
theorem mkY_go {s : σ} {h : Hp} (hm : Mt LC keys s h) (x : List V) : (mkY LC keys pre go nxt).go x h = ⟨((h YS).blks = [] ∧ (h YS).fl = false) ∧ pre s x, .bool (go s x), hfl (hps (LC (nxt s x)) h) (!go s x)⟩ := by
  have hs : ∃ s, Mt LC keys s h := ⟨s, hm⟩
  have e : hs.choose = s := inj _ _ fun k hk => (hs.choose_spec k hk).symm.trans (hm k hk)
  simp only [mkY, dif_pos hs, e]
omit [Gls] in
theorem mkY_c {x : List V} {h : Hp} (hc : ((mkY LC keys pre go nxt).go x h).c) : ∃ s, Mt LC keys s h ∧ ((h YS).blks = [] ∧ (h YS).fl = false) ∧ pre s x := by
  by_cases hs : ∃ s, Mt LC keys s h
  · obtain ⟨s, hm⟩ := hs
    rw [mkY_go inj hm] at hc
    exact ⟨s, hm, hc⟩
  · simp only [mkY, dif_neg hs] at hc
omit [Gls] in
theorem mkY_loc (hkeys : ∀ s, (LC s).map (·.1) = keys) {own ro : List Nat} (hd : keys.all (fun k => !own.contains k && !ro.contains k && !(k == YS)) = true) (ho : own.contains YS = false) (hr : ro.contains YS = false) : Loc (mkY LC keys pre go nxt) own ro := by
  have hd' : ∀ k ∈ keys, k ∉ own ∧ k ∉ ro ∧ k ≠ YS := fun k hk => by
    have := List.all_eq_true.1 hd k hk
    simp only [Bool.and_eq_true, Bool.not_eq_true', List.contains_eq_mem, decide_eq_false_iff_not, beq_eq_false_iff_ne] at this
    exact ⟨this.1.1, this.1.2, this.2⟩
  have hoy : YS ∉ own := by simpa [List.contains_eq_mem] using ho
  have hry : YS ∉ ro := by simpa [List.contains_eq_mem] using hr
  have hLy : ∀ s, YS ∉ (LC s).map (·.1) := fun s hm => by rw [hkeys] at hm; exact (hd' _ hm).2.2 rfl
  refine ⟨fun L hL x h hc => ?_, fun x h hc k hk => ?_, fun x h hc => ?_, fun x h hc => ?_⟩
  · obtain ⟨s, hm, hy, hp⟩ := mkY_c inj hc
    have hLn : ∀ k ∈ keys, k ∉ L.map (·.1) := fun k hk hm => (hd' k hk).1 (hL k hm)
    have hm' : Mt LC keys s (hps L h) := fun k hk => by rw [hps_not (hLn k hk)]; exact hm k hk
    have hyL : hps L h YS = h YS := hps_not fun hm => hoy (hL _ hm)
    rw [mkY_go inj hm, mkY_go inj hm']
    refine ⟨by rw [hyL]; exact ⟨hy, hp⟩, rfl, ?_⟩
    funext k
    dsimp only
    by_cases hk : k = YS
    · rw [hk]
      have hyn : YS ∉ L.map (·.1) := fun hm => hoy (hL _ hm)
      rw [hps_not hyn, hfl_ys, hfl_ys]
      simp only [hnext, hps_not (hLy _), hyL]
    · rw [hfl_ne _ _ hk]
      by_cases hkL : k ∈ L.map (·.1)
      · have : k ∉ (LC (nxt s x)).map (·.1) := by rw [hkeys]; exact fun hm => hLn k hm hkL
        rw [hps_not this]
        exact hps_mem hkL
      · rw [hps_not hkL, hfl_ne _ _ hk]
        by_cases hkC : k ∈ (LC (nxt s x)).map (·.1)
        · exact hps_mem hkC
        · rw [hps_not hkC, hps_not hkC, hps_not hkL]
  · obtain ⟨s, hm, hy, hp⟩ := mkY_c inj hc
    rw [mkY_go inj hm]
    have hky : k ≠ YS := fun e => hry (by rw [← e]; exact hk)
    dsimp only
    rw [hfl_ne _ _ hky, hps_not (by rw [hkeys]; exact fun hm => (hd' k hm).2.1 hk)]
  · obtain ⟨s, hm, hy, hp⟩ := mkY_c inj hc
    rw [mkY_go inj hm]
    exact ⟨_, rfl⟩
  · obtain ⟨s, hm, hy, hp⟩ := mkY_c inj hc
    refine ⟨hy, ?_⟩
    rw [mkY_go inj hm]
    intro hv
    simp only [V.bool.injEq] at hv
    simp only [hv, Bool.not_true]
    rw [hfl_self (by rw [hps_not (hLy _)]; exact hy.1) (by rw [hps_not (hLy _)]; exact hy.2), hps_not (hLy _)]
omit [Gls] in
theorem runS_feed (hkeys : ∀ s, (LC s).map (·.1) = keys) (hky : YS ∉ keys) : ∀ (xs : List (List V)) (s : σ) (h : Hp), Mt LC keys s h → (h YS).blks = [] → (h YS).fl = false → (runS pre go nxt s xs).1 →
    (feed (mkY LC keys pre go nxt) xs h).1 ∧ (feed (mkY LC keys pre go nxt) xs h).2 = hfl (hps (LC (runS pre go nxt s xs).2.2) h) (!(runS pre go nxt s xs).2.1)
  | [], s, h, hm, h1, h2, _ => by
    refine ⟨trivial, ?_⟩
    simp only [feed, runS, Bool.not_true]
    rw [hps_self (fun k hk => hm k (by rw [← hkeys s]; exact hk)), hfl_self h1 h2]
  | x :: r, s, h, hm, h1, h2, hr => by
    have hLy : ∀ s, YS ∉ (LC s).map (·.1) := fun s => by rw [hkeys]; exact hky
    rw [feed_cons, mkY_go inj hm]
    cases hg : go s x with
    | false =>
      simp only [runS, hg] at hr ⊢
      exact ⟨⟨⟨h1, h2⟩, hr⟩, by simp⟩
    | true =>
      simp only [runS, hg] at hr ⊢
      simp only [Bool.not_true]
      have e1 : hps (LC (nxt s x)) h YS = h YS := hps_not (hLy _)
      rw [hfl_self (by rw [e1]; exact h1) (by rw [e1]; exact h2)]
      have hm' : Mt LC keys (nxt s x) (hps (LC (nxt s x)) h) := fun k hk => hps_mem (by rw [hkeys]; exact hk)
      obtain ⟨g1, g2⟩ := runS_feed hkeys hky r (nxt s x) (hps (LC (nxt s x)) h) hm' (by rw [e1]; exact h1) (by rw [e1]; exact h2) hr.2
      refine ⟨⟨⟨⟨h1, h2⟩, hr.1⟩, g1⟩, ?_⟩
      rw [g2]
      congr 1
      funext k
      by_cases hk : k ∈ keys
      · exact hps_mem (by rw [hkeys]; exact hk)
      · rw [hps_not (by rw [hkeys]; exact hk), hps_not (by rw [hkeys]; exact hk), hps_not (by rw [hkeys]; exact hk)]
/-- **The rule for loops over functions.** -/
theorem awp_range (hkeys : ∀ s, (LC s).map (·.1) = keys) {E : Env} {ok : Alts} {g : Operand} {ps : Array Tmp} {assign body : Code} {t : Nat → Bool × V} {h : Hp} {Q : Ex → St → Prop}
    (s0 : σ) (e0 : Ex) {own ro : List Nat} {dec : List V → Hp → Prop × List (List V)} {it : Nat} {caps : List V} (xs : List (List V))
    (h1 : ev { t := t, h := h } g = (true, .fn it caps)) (h2 : E.fn it = some (.iter (itS own ro dec))) (hps' : (ps.toList.all fun p => decide (p < E.nt)) = true)
    (hd : keys.all (fun k => !own.contains k && !ro.contains k && !(k == YS)) = true) (ho : own.contains YS = false) (hr : ro.contains YS = false)
    (hys : (h YS).blks = [] ∧ (h YS).fl = false) (hm : Mt LC keys s0 h) (hfr : ∀ k ∈ own, h k = { base := (h k).base, blks := [] }) (hdec : (dec caps h).1 ∧ (dec caps h).2 = xs)
    (hrun : (runS pre go nxt s0 xs).1)
    (hround : ∀ s x hb, pre s x → (hb YS).blks = [] → (hb YS).fl = false → x.length = ps.size ∧ awp E ok assign { t := setT t ps.toList x, h := hps (LC s) hb } fun e st1 => match e with
        | .normal => awp E ok body st1 fun e st2 => match e with
          | .normal => go s x = true ∧ HLe st2.h (hps (LC (nxt s x)) hb)
          | .ret => e0 = .ret ∧ go s x = false ∧ HLe st2.h (hps (LC (nxt s x)) hb)
          | .exit id => e0 = .exit id ∧ go s x = false ∧ HLe st2.h (hps (LC (nxt s x)) hb)
        | _ => False)
    (hQ1 : (runS pre go nxt s0 xs).2.1 = true → Q .normal { t := t, h := hps (own.map fun k => (k, { base := (h k).base + 1000000, blks := [] })) (hps (LC (runS pre go nxt s0 xs).2.2) h) })
    (hQ2 : (runS pre go nxt s0 xs).2.1 = false → e0 ≠ .normal ∧ Q e0 { t := t, h := hps (own.map fun k => (k, { base := (h k).base + 1000000, blks := [] })) (hps (LC (runS pre go nxt s0 xs).2.2) h) })
    (hyl : E.yl = none := by rfl) : awp E ok (.rangeFunc g ps assign body) { t := t, h := h } Q := by
  have hd' : ∀ k ∈ keys, k ∉ own ∧ k ∉ ro ∧ k ≠ YS := fun k hk => by
    have := List.all_eq_true.1 hd k hk
    simp only [Bool.and_eq_true, Bool.not_eq_true', List.contains_eq_mem, decide_eq_false_iff_not, beq_eq_false_iff_ne] at this
    exact ⟨this.1.1, this.1.2, this.2⟩
  have hky : YS ∉ keys := fun hm => (hd' _ hm).2.2 rfl
  have hoy : YS ∉ own := by simpa [List.contains_eq_mem] using ho
  have hLy : ∀ s, YS ∉ (LC s).map (·.1) := fun s => by rw [hkeys]; exact hky
  have hflm : ∀ (a b : Hp) (x : Bool), HLe a b → HLe (hfl a x) (hfl b x) := by
    intro a b x hab
    refine ⟨⟨fun s i B hg => ?_, fun s => ?_⟩, ?_⟩
    · rw [hget_hfl] at hg ⊢
      split at hg
      · cases hg
      · rename_i hne; rw [if_neg hne]; exact hab.1.1 s i B hg
    · rw [hnext_hfl, hnext_hfl]; exact hab.1.2 s
    · simp only [hfl, if_true]
      simp only [hnext, hab.2]
  simp only [awp]
  refine ⟨hyl, it, caps, itS own ro dec, mkY LC keys pre go nxt, e0, ⟨⟨h1, h2⟩, hps'⟩, fun x hb hc => ?_, fun l => ?_⟩
  · obtain ⟨s, hm, hy, hp⟩ := mkY_c inj hc
    obtain ⟨r1, r2⟩ := hround s x hb hp hy.1 hy.2
    refine ⟨hy, r1, ?_⟩
    have he : hps (LC s) hb = hb := hps_self fun k hk => hm k (by rw [← hkeys s]; exact hk)
    rw [he] at r2
    rw [mkY_go inj hm]
    refine awp_mono assign _ _ _ (fun e st1 hh => ?_) r2
    cases e with
    | normal =>
      refine awp_mono body _ _ _ (fun e st2 hh => ?_) hh
      cases e with
      | normal => exact ⟨by rw [hh.1], by rw [hh.1]; exact hflm _ _ _ hh.2⟩
      | ret => exact ⟨hh.1, by rw [hh.2.1], by rw [hh.2.1]; exact hflm _ _ _ hh.2.2⟩
      | exit id => exact ⟨hh.1, by rw [hh.2.1], by rw [hh.2.1]; exact hflm _ _ _ hh.2.2⟩
    | _ => exact hh.elim
  · rw [hfl_self hys.1 hys.2]
    obtain ⟨f1, f2⟩ := runS_feed inj hkeys hky xs s0 h hm hys.1 hys.2 hrun
    have hloc := mkY_loc (pre := pre) (go := go) (nxt := nxt) inj hkeys hd ho hr
    have hgo : (itS own ro dec l (mkY LC keys pre go nxt)).go (.yld l :: caps) h = ⟨l = l ∧ Loc (mkY LC keys pre go nxt) own ro ∧ (∀ k ∈ own, h k = { base := (h k).base, blks := [] }) ∧ (dec caps h).1 ∧ (feed (mkY LC keys pre go nxt) (dec caps h).2 h).1, .tup [], hps (own.map fun k => (k, { base := (h k).base + 1000000, blks := [] })) (feed (mkY LC keys pre go nxt) (dec caps h).2 h).2⟩ := rfl
    rw [hgo, hdec.2]
    refine ⟨⟨rfl, hloc, hfr, hdec.1, f1⟩, ?_⟩
    simp only [f2]
    have hoL : YS ∉ (own.map fun k => (k, ({ base := (h k).base + 1000000, blks := [] } : Site))).map (·.1) := by
      rw [List.map_map]
      intro hm
      obtain ⟨a, ha, e⟩ := List.mem_map.1 hm
      exact hoy (e ▸ ha)
    have hflg : ∀ b, (hps (own.map fun k => (k, ({ base := (h k).base + 1000000, blks := [] } : Site))) (hfl (hps (LC (runS pre go nxt s0 xs).2.2) h) b) YS).fl = b := fun b => by
      rw [hps_not hoL]; simp [hfl]
    have hfin : ∀ b, hfl (hps (own.map fun k => (k, ({ base := (h k).base + 1000000, blks := [] } : Site))) (hfl (hps (LC (runS pre go nxt s0 xs).2.2) h) b)) false = hps (own.map fun k => (k, ({ base := (h k).base + 1000000, blks := [] } : Site))) (hps (LC (runS pre go nxt s0 xs).2.2) h) := by
      intro b
      funext k
      by_cases hk : k = YS
      · rw [hk]
        have e1 : hps (LC (runS pre go nxt s0 xs).2.2) h YS = h YS := hps_not (hLy _)
        rw [hps_not hoL, e1, hfl_ys]
        simp only [hnext, hps_not hoL, hfl_ys, e1]
        cases hh : h YS with
        | mk base blks fl => rw [hh] at hys; obtain ⟨a, b⟩ := hys; simp only at a b; subst a b; simp
      · rw [hfl_ne _ _ hk]
        by_cases hkL : k ∈ (own.map fun k => (k, ({ base := (h k).base + 1000000, blks := [] } : Site))).map (·.1)
        · exact hps_mem hkL
        · rw [hps_not hkL, hps_not hkL, hfl_ne _ _ hk]
    rw [hflg, hfin]
    refine ⟨fun hb => hQ1 (by simpa using hb), fun hb => hQ2 (by simpa using hb)⟩
end
end Go.Sx
end
section
/- Pages: hours by the number of pages that they are on. No conditions. -/
set_option linter.unusedSimpArgs false
set_option linter.unusedSectionVars false
namespace Go.Sx

structure Sp where
  lo : Int
  hi : Int
  deriving DecidableEq, Inhabited
def Sp.row (s : Sp) : List V := [.int .i64 s.lo, .int .i64 s.hi]
theorem Sp.row_inj (a b : Sp) (h : a.row = b.row) : a = b := by
  cases a; cases b; simp [Sp.row] at h; simp [h]
def Sp.has (s : Sp) (h : Int) : Bool := decide (s.lo ≤ h) && decide (h ≤ s.hi)
/-- On how many of the first pages an hour is. -/
def manyTo (pg : List Sp) (h : Int) : Nat → Nat
  | 0 => 0
  | k + 1 => manyTo pg h k + if (pg.getD k default).has h = true then 1 else 0
def many (pg : List Sp) (h : Int) : Nat := manyTo pg h pg.length
theorem manyTo_le (pg : List Sp) (h : Int) : ∀ k, manyTo pg h k ≤ k
  | 0 => Nat.le_refl _
  | k + 1 => by
    have := manyTo_le pg h k
    simp only [manyTo]; split <;> omega
/-- The fewest spans of the hours that are so. -/
def rns (f : Nat → Bool) : Nat → List Sp
  | 0 => []
  | h + 1 => if f h = true then (match (rns f h).getLast? with
      | some s => if s.hi = (h : Int) - 1 then (rns f h).dropLast ++ [⟨s.lo, h⟩] else rns f h ++ [⟨h, h⟩]
      | none => [⟨h, h⟩]) else rns f h
theorem rns_no {f : Nat → Bool} {h : Nat} (hf : f h = false) : rns f (h + 1) = rns f h := by
  simp only [rns, hf]; rfl
theorem rns_nil {f : Nat → Bool} {h : Nat} (hf : f h = true) (hr : rns f h = []) : rns f (h + 1) = [⟨h, h⟩] := by
  simp only [rns, hf, hr]; rfl
theorem rns_more {f : Nat → Bool} {h : Nat} {p : List Sp} {s : Sp} (hf : f h = true) (hr : rns f h = p ++ [s]) (hs : s.hi = (h : Int) - 1) : rns f (h + 1) = p ++ [⟨s.lo, h⟩] := by
  simp [rns, hf, hr, hs]
theorem rns_new {f : Nat → Bool} {h : Nat} {p : List Sp} {s : Sp} (hf : f h = true) (hr : rns f h = p ++ [s]) (hs : ¬ s.hi = (h : Int) - 1) : rns f (h + 1) = p ++ [s] ++ [⟨h, h⟩] := by
  simp [rns, hf, hr, hs]
theorem snoc_cases {α : Type} (l : List α) : l = [] ∨ ∃ p s, l = p ++ [s] := by
  cases h : l.reverse with
  | nil => left; simpa using h
  | cons a r => right; exact ⟨r.reverse, a, by have := congrArg List.reverse h; simpa using this⟩
theorem rns_len (f : Nat → Bool) : ∀ h, (rns f h).length ≤ h
  | 0 => by simp [rns]
  | h + 1 => by
    have ih := rns_len f h
    cases hf : f h
    · rw [rns_no hf]; omega
    · rcases snoc_cases (rns f h) with e | ⟨p, s, e⟩
      · rw [rns_nil hf e]; simp
      · rw [e] at ih
        simp at ih
        by_cases hs : s.hi = (h : Int) - 1
        · rw [rns_more hf e hs]; simp; omega
        · rw [rns_new hf e hs]; simp; omega
theorem rns_congr {f g : Nat → Bool} : ∀ h, (∀ i, i < h → f i = g i) → rns f h = rns g h
  | 0, _ => rfl
  | h + 1, hfg => by simp only [rns, rns_congr h fun i hi => hfg i (by omega), hfg h (by omega)]
/-- By how much the number of pages changes at an hour. -/
def chTo (hrs : Nat) (pg : List Sp) : Nat → List Int
  | 0 => List.replicate (hrs + 1) 0
  | k + 1 => let c := chTo hrs pg k
    let a := (pg.getD k default).lo.toNat
    let b := ((pg.getD k default).hi + 1).toNat
    let c1 := c.set a (c.getD a 0 + 1)
    c1.set b (c1.getD b 0 - 1)
theorem chTo_len (hrs : Nat) (pg : List Sp) : ∀ k, (chTo hrs pg k).length = hrs + 1
  | 0 => by simp [chTo]
  | k + 1 => by simp only [chTo, List.length_set]; exact chTo_len hrs pg k
def psum (c : List Int) : Nat → Int
  | 0 => 0
  | h + 1 => psum c h + c.getD h 0
theorem psum_set (c : List Int) (a : Nat) (x : Int) (ha : a < c.length) : ∀ h, psum (c.set a x) h = psum c h + if a < h then x - c.getD a 0 else 0
  | 0 => by simp [psum]
  | h + 1 => by
    simp only [psum, psum_set c a x ha h]
    by_cases e : a = h
    · subst e
      have : (c.set a x).getD a 0 = x := by simp [List.getD, ha]
      rw [this, if_neg (by omega), if_pos (by omega)]; omega
    · have : (c.set a x).getD h 0 = c.getD h 0 := by simp [List.getD, List.getElem?_set_ne e]
      rw [this]
      by_cases hlt : a < h
      · rw [if_pos hlt, if_pos (by omega)]; omega
      · rw [if_neg hlt, if_neg (by omega)]; omega
theorem psum_zero (n : Nat) : ∀ h, psum (List.replicate n (0 : Int)) h = 0
  | 0 => rfl
  | h + 1 => by
    rw [psum, psum_zero n h]
    simp only [List.getD, List.getElem?_replicate]
    split <;> rfl
theorem psum_many {hrs : Nat} {pg : List Sp} (hp : ∀ p ∈ pg, 0 ≤ p.lo ∧ p.lo ≤ p.hi ∧ p.hi ≤ (hrs : Int) - 1) : ∀ k h, k ≤ pg.length → h < hrs → psum (chTo hrs pg k) (h + 1) = (manyTo pg h k : Nat)
  | 0, h, _, _ => by rw [chTo, psum_zero]; rfl
  | k + 1, h, hk, hh => by
    have ih := psum_many hp k h (by omega) hh
    have hkl : k < pg.length := by omega
    have hb := hp (pg.getD k default) (by simp [List.getD, hkl])
    generalize hP : pg.getD k default = p at *
    have hl := chTo_len hrs pg k
    have e0 : chTo hrs pg (k + 1) = ((chTo hrs pg k).set p.lo.toNat ((chTo hrs pg k).getD p.lo.toNat 0 + 1)).set (p.hi + 1).toNat (((chTo hrs pg k).set p.lo.toNat ((chTo hrs pg k).getD p.lo.toNat 0 + 1)).getD (p.hi + 1).toNat 0 - 1) := by
      simp only [chTo, hP]
    rw [e0, psum_set _ _ _ (by rw [List.length_set]; omega), psum_set _ _ _ (by omega), ih]
    have e1 : manyTo pg h (k + 1) = manyTo pg h k + if p.has h = true then 1 else 0 := by simp only [manyTo, hP]
    rw [e1]
    by_cases h1 : p.lo ≤ (h : Int)
    · rw [if_pos (show p.lo.toNat < h + 1 by omega)]
      by_cases h2 : (h : Int) ≤ p.hi
      · have : p.has h = true := by simp [Sp.has, h1, h2]
        rw [if_pos this, if_neg (show ¬ (p.hi + 1).toNat < h + 1 by omega)]; omega
      · have : ¬ p.has h = true := by simp [Sp.has, h2]
        rw [if_neg this, if_pos (show (p.hi + 1).toNat < h + 1 by omega)]; omega
    · rw [if_neg (show ¬ p.lo.toNat < h + 1 by omega)]
      have : ¬ p.has h = true := by simp [Sp.has, h1]
      rw [if_neg this, if_neg (show ¬ (p.hi + 1).toNat < h + 1 by omega)]; omega
theorem chTo_bd {hrs : Nat} {pg : List Sp} : ∀ (k i : Nat), -(k : Int) ≤ (chTo hrs pg k).getD i 0 ∧ (chTo hrs pg k).getD i 0 ≤ k
  | 0, i => by simp only [chTo, List.getD, List.getElem?_replicate]; split <;> simp
  | k + 1, i => by
    have ih := chTo_bd (hrs := hrs) (pg := pg) k
    have st : ∀ (c : List Int) (a j : Nat) (x : Int), (c.set a x).getD j 0 = x ∨ (c.set a x).getD j 0 = c.getD j 0 ∨ (c.set a x).getD j 0 = 0 := by
      intro c a j x
      simp only [List.getD, List.getElem?_set]
      split
      · split
        · left; rfl
        · right; right; rfl
      · right; left; rfl
    simp only [chTo]
    generalize chTo hrs pg k = c at *
    generalize (pg.getD k default).lo.toNat = a
    generalize ((pg.getD k default).hi + 1).toNat = b
    have iha := ih a
    have ihb := ih b
    have ihi := ih i
    have f1 := fun j => st c a j (c.getD a 0 + 1)
    have g1 := f1 b
    have g2 := f1 i
    rcases st (c.set a (c.getD a 0 + 1)) b i ((c.set a (c.getD a 0 + 1)).getD b 0 - 1) with h | h | h <;> rw [h] <;> omega
end Go.Sx
end
section
/- Crew, plain: ticks that are counted; duties; what is worked in a window. No conditions. -/
set_option linter.unusedSimpArgs false
set_option linter.unusedSectionVars false
namespace Go.Sx

/-- How many of n ticks from x on are so. -/
def cnt (P : Int → Bool) (x : Int) : Nat → Int
  | 0 => 0
  | n + 1 => cnt P x n + if P (x + n) = true then 1 else 0
theorem cnt_split (P : Int → Bool) (x : Int) (m : Nat) : ∀ n : Nat, cnt P x (m + n) = cnt P x m + cnt P (x + m) n
  | 0 => by simp [cnt]
  | n + 1 => by
    have ih := cnt_split P x m n
    rw [show m + (n + 1) = (m + n) + 1 from rfl, cnt, cnt, ih, show x + ((m + n : Nat) : Int) = x + m + n by omega]
    omega
theorem cnt_congr {P Q : Int → Bool} {x : Int} : ∀ n : Nat, (∀ t, x ≤ t → t < x + n → P t = Q t) → cnt P x n = cnt Q x n
  | 0, _ => rfl
  | n + 1, h => by
    rw [cnt, cnt, cnt_congr n fun t h1 h2 => h t h1 (by omega), h (x + n) (by omega) (by omega)]
theorem cnt_add {P Q R : Int → Bool} {x : Int} : ∀ n : Nat, (∀ t, x ≤ t → t < x + n → (if P t = true then (1 : Int) else 0) = (if Q t = true then 1 else 0) + (if R t = true then 1 else 0)) → cnt P x n = cnt Q x n + cnt R x n
  | 0, _ => rfl
  | n + 1, h => by
    have h1 := cnt_add n fun t h1 h2 => h t h1 (by omega)
    have h2 := h (x + n) (by omega) (by omega)
    rw [cnt, cnt, cnt, h1, h2]; omega
theorem cnt_mono {P Q : Int → Bool} {x : Int} : ∀ n : Nat, (∀ t, x ≤ t → t < x + n → P t = true → Q t = true) → cnt P x n ≤ cnt Q x n
  | 0, _ => Int.le_refl _
  | n + 1, h => by
    have h1 := cnt_mono n fun t h1 h2 => h t h1 (by omega)
    have h2 := h (x + n) (by omega) (by omega)
    rw [cnt, cnt]
    by_cases hp : P (x + n) = true
    · rw [if_pos hp, if_pos (h2 hp)]; omega
    · rw [if_neg hp]; split <;> omega
theorem cnt_le (P : Int → Bool) (x : Int) : ∀ n : Nat, 0 ≤ cnt P x n ∧ cnt P x n ≤ n
  | 0 => by simp [cnt]
  | n + 1 => by have := cnt_le P x n; rw [cnt]; split <;> omega
theorem cnt_all {P : Int → Bool} {x : Int} : ∀ n : Nat, (∀ t, x ≤ t → t < x + n → P t = true) → cnt P x n = n
  | 0, _ => rfl
  | n + 1, h => by rw [cnt, cnt_all n fun t h1 h2 => h t h1 (by omega), if_pos (h (x + n) (by omega) (by omega))]; omega
theorem cnt_none {P : Int → Bool} {x : Int} : ∀ n : Nat, (∀ t, x ≤ t → t < x + n → P t = false) → cnt P x n = 0
  | 0, _ => rfl
  | n + 1, h => by rw [cnt, cnt_none n fun t h1 h2 => h t h1 (by omega), h (x + n) (by omega) (by omega)]; rfl

/-- How many ticks from x on, before y, are so. -/
def cn (P : Int → Bool) (x y : Int) : Int := cnt P x (y - x).toNat
theorem cn_split {P : Int → Bool} {x y z : Int} (h1 : x ≤ y) (h2 : y ≤ z) : cn P x z = cn P x y + cn P y z := by
  unfold cn
  rw [show (z - x).toNat = (y - x).toNat + (z - y).toNat by omega, cnt_split, show x + ((y - x).toNat : Int) = y by omega]
theorem cn_congr {P Q : Int → Bool} {x y : Int} (h : ∀ t, x ≤ t → t < y → P t = Q t) : cn P x y = cn Q x y := cnt_congr _ fun t h1 h2 => h t h1 (by omega)
theorem cn_add {P Q R : Int → Bool} {x y : Int} (h : ∀ t, x ≤ t → t < y → (if P t = true then (1 : Int) else 0) = (if Q t = true then 1 else 0) + (if R t = true then 1 else 0)) : cn P x y = cn Q x y + cn R x y := cnt_add _ fun t h1 h2 => h t h1 (by omega)
theorem cn_mono {P Q : Int → Bool} {x y : Int} (h : ∀ t, x ≤ t → t < y → P t = true → Q t = true) : cn P x y ≤ cn Q x y := cnt_mono _ fun t h1 h2 => h t h1 (by omega)
theorem cn_nonneg (P : Int → Bool) (x y : Int) : 0 ≤ cn P x y := (cnt_le P x _).1
theorem cn_all {P : Int → Bool} {x y : Int} (hxy : x ≤ y) (h : ∀ t, x ≤ t → t < y → P t = true) : cn P x y = y - x := by
  unfold cn; rw [cnt_all _ fun t h1 h2 => h t h1 (by omega)]; omega
theorem cn_none {P : Int → Bool} {x y : Int} (h : ∀ t, x ≤ t → t < y → P t = false) : cn P x y = 0 := cnt_none _ fun t h1 h2 => h t h1 (by omega)
theorem cn_empty {P : Int → Bool} {x y : Int} (h : y ≤ x) : cn P x y = 0 := cn_none fun t h1 h2 => by omega
theorem cn_one (P : Int → Bool) (x : Int) : cn P x (x + 1) = if P x = true then 1 else 0 := by
  unfold cn
  rw [show (x + 1 - x).toNat = 1 by omega]
  simp [cnt]
theorem cn_le {P : Int → Bool} {x y : Int} (h : x ≤ y) : cn P x y ≤ y - x := by
  have := (cnt_le P x (y - x).toNat).2; unfold cn; omega

/-- A duty. -/
structure Du where
  p : Int
  a : Int
  b : Int
  deriving DecidableEq, Inhabited
def Du.on (d : Du) (t : Int) : Bool := decide (d.a ≤ t) && decide (t < d.b)
/-- Whether a tick is in some duty. -/
def onD (l : List Du) (t : Int) : Bool := l.any fun d => d.on t
theorem onD_cons (d : Du) (l : List Du) (t : Int) : onD (d :: l) t = (d.on t || onD l t) := rfl
theorem onD_iff {l : List Du} {t : Int} : onD l t = true ↔ ∃ d ∈ l, d.a ≤ t ∧ t < d.b := by
  simp [onD, Du.on, List.any_eq_true]
theorem onD_perm {l l' : List Du} (h : l.Perm l') (t : Int) : onD l t = onD l' t := by
  unfold onD; exact h.any_eq
theorem onD_app (l l' : List Du) (t : Int) : onD (l ++ l') t = (onD l t || onD l' t) := by simp [onD]
/-- What the sweep over duties counts. -/
def swp (to : Int) : List Du → Int → Int → Int
  | [], _, n => n
  | d :: r, done, n => if max d.a done < min d.b to then swp to r (min d.b to) (n + (min d.b to - max d.a done)) else swp to r done n
theorem swp_eq (to : Int) : ∀ (l : List Du) (done n : Int), done ≤ to → l.Pairwise (fun x y => x.a ≤ y.a) → swp to l done n = n + cn (onD l) done to
  | [], done, n, _, _ => by
    rw [swp, cn_none (P := onD []) fun t _ _ => rfl]; omega
  | d :: r, done, n, h, hp => by
    rw [swp]
    have hr := List.pairwise_cons.1 hp
    split
    · rename_i h1
      rw [swp_eq to r _ _ (by omega) hr.2]
      have e1 : cn (onD (d :: r)) done to = cn (onD (d :: r)) done (max d.a done) + (cn (onD (d :: r)) (max d.a done) (min d.b to) + cn (onD (d :: r)) (min d.b to) to) := by
        rw [← cn_split (by omega) (by omega), ← cn_split (by omega) (by omega)]
      have e2 : cn (onD (d :: r)) done (max d.a done) = 0 := cn_none fun t t1 t2 => by
        cases ht : onD (d :: r) t
        · rfl
        · obtain ⟨x, hx, hx1, hx2⟩ := onD_iff.1 ht
          rcases List.mem_cons.1 hx with rfl | hx
          · omega
          · have := hr.1 x hx; omega
      have e3 : cn (onD (d :: r)) (max d.a done) (min d.b to) = min d.b to - max d.a done := cn_all (by omega) fun t t1 t2 => onD_iff.2 ⟨d, List.mem_cons_self, by omega, by omega⟩
      have e4 : cn (onD (d :: r)) (min d.b to) to = cn (onD r) (min d.b to) to := cn_congr fun t t1 t2 => by
        rw [onD_cons]
        have : d.on t = false := by simp [Du.on]; omega
        rw [this]; rfl
      omega
    · rename_i h1
      rw [swp_eq to r _ _ h hr.2]
      rw [cn_congr (P := onD (d :: r)) (Q := onD r) fun t t1 t2 => by
        rw [onD_cons]
        have : d.on t = false := by simp [Du.on]; omega
        rw [this]; rfl]

/-- In how many ticks of a window one is on a duty. -/
def wk (l : List Du) (x y : Int) : Int := cn (onD l) x y
theorem wk_perm {l l' : List Du} (h : l.Perm l') (x y : Int) : wk l x y = wk l' x y := cn_congr fun t _ _ => onD_perm h t
theorem wk_sorted {l l' : List Du} (h : l'.Perm l) (hs : l'.Pairwise (fun x y => x.a ≤ y.a)) {x y : Int} (hxy : x ≤ y) : swp y l' x 0 = wk l x y := by
  rw [swp_eq y l' x 0 hxy hs, Int.zero_add]; exact wk_perm h x y
theorem wk_mono {l l' : List Du} (h : ∀ d ∈ l, d ∈ l') (x y : Int) : wk l x y ≤ wk l' x y := cn_mono fun t _ _ ht => by
  obtain ⟨d, hd, h1⟩ := onD_iff.1 ht
  exact onD_iff.2 ⟨d, h d hd, h1⟩

/-! windows: the most is worked in one that begins with a duty -/
theorem wk_left {l : List Du} {x W : Int} (hW : 0 ≤ W) (h : onD l (x - 1) = true) : wk l x (x + W) ≤ wk l (x - 1) (x - 1 + W) := by
  unfold wk
  by_cases h0 : W = 0
  · subst h0; rw [cn_empty (by omega), cn_empty (by omega)]; omega
  have e1 : cn (onD l) (x - 1) (x + W) = cn (onD l) (x - 1) x + cn (onD l) x (x + W) := cn_split (by omega) (by omega)
  have e2 : cn (onD l) (x - 1) (x + W) = cn (onD l) (x - 1) (x - 1 + W) + cn (onD l) (x - 1 + W) (x + W) := cn_split (by omega) (by omega)
  have e3 : cn (onD l) (x - 1) x = 1 := by have := cn_one (onD l) (x - 1); rw [Int.sub_add_cancel] at this; rw [this, if_pos h]
  have e4 : cn (onD l) (x - 1 + W) (x + W) ≤ 1 := by have := cn_le (P := onD l) (x := x - 1 + W) (y := x + W) (by omega); omega
  omega
theorem wk_right {l : List Du} {x W : Int} (hW : 0 ≤ W) (h : onD l x = false) : wk l x (x + W) ≤ wk l (x + 1) (x + 1 + W) := by
  unfold wk
  by_cases h0 : W = 0
  · subst h0; rw [cn_empty (by omega), cn_empty (by omega)]; omega
  have e1 : cn (onD l) x (x + 1 + W) = cn (onD l) x (x + 1) + cn (onD l) (x + 1) (x + 1 + W) := cn_split (by omega) (by omega)
  have e2 : cn (onD l) x (x + 1 + W) = cn (onD l) x (x + W) + cn (onD l) (x + W) (x + 1 + W) := cn_split (by omega) (by omega)
  have e3 : cn (onD l) x (x + 1) = 0 := by rw [cn_one, h]; rfl
  have e4 := cn_nonneg (onD l) (x + W) (x + 1 + W)
  omega
/-- From a tick of a duty one comes to a duty's begin. -/
theorem begin_left {l : List Du} {W : Int} (hW : 0 ≤ W) : ∀ (n : Nat) (x lo : Int), (∀ d ∈ l, lo ≤ d.a) → x ≤ lo + n → onD l x = true → ∃ d ∈ l, wk l x (x + W) ≤ wk l d.a (d.a + W)
  | 0, x, lo, hlo, hx, h => by
    obtain ⟨d, hd, h1, h2⟩ := onD_iff.1 h
    have := hlo d hd
    exact ⟨d, hd, by rw [show x = d.a by omega]; exact Int.le_refl _⟩
  | n + 1, x, lo, hlo, hx, h => by
    by_cases h1 : onD l (x - 1) = true
    · obtain ⟨d, hd, h2⟩ := begin_left hW n (x - 1) lo hlo (by omega) h1
      exact ⟨d, hd, Int.le_trans (wk_left hW h1) h2⟩
    · obtain ⟨d, hd, h2, h3⟩ := onD_iff.1 h
      have : d.a = x := by
        by_cases h4 : d.a = x
        · exact h4
        · exact absurd (onD_iff.2 ⟨d, hd, by omega, by omega⟩) h1
      exact ⟨d, hd, by rw [this]; exact Int.le_refl _⟩
theorem begin_right {l : List Du} {W : Int} (hW : 0 ≤ W) (hne : l ≠ []) : ∀ (n : Nat) (x hi : Int), (∀ d ∈ l, d.b ≤ hi) → hi ≤ x + n → wk l x (x + W) = 0 ∨ ∃ y, onD l y = true ∧ wk l x (x + W) ≤ wk l y (y + W)
  | 0, x, hi, hhi, hx => .inl (cn_none fun t t1 t2 => by
      cases ht : onD l t
      · rfl
      · obtain ⟨d, hd, h1, h2⟩ := onD_iff.1 ht
        have := hhi d hd; omega)
  | n + 1, x, hi, hhi, hx => by
    by_cases h : onD l x = true
    · exact .inr ⟨x, h, Int.le_refl _⟩
    · have h1 := wk_right hW (Bool.eq_false_iff.2 h)
      rcases begin_right hW hne n (x + 1) hi hhi (by omega) with h2 | ⟨y, hy, h2⟩
      · left; have := cn_nonneg (onD l) x (x + W); unfold wk at h1 h2 ⊢; omega
      · exact .inr ⟨y, hy, Int.le_trans h1 h2⟩
theorem bound_lo : ∀ l : List Du, ∃ lo : Int, ∀ d ∈ l, lo ≤ d.a
  | [] => ⟨0, fun _ h => by cases h⟩
  | d :: l => by
    obtain ⟨lo, h⟩ := bound_lo l
    refine ⟨min lo d.a, fun x hx => ?_⟩
    rcases List.mem_cons.1 hx with rfl | hx
    · omega
    · have := h x hx; omega
theorem bound_hi : ∀ l : List Du, ∃ hi : Int, ∀ d ∈ l, d.b ≤ hi
  | [] => ⟨0, fun _ h => by cases h⟩
  | d :: l => by
    obtain ⟨lo, h⟩ := bound_hi l
    refine ⟨max lo d.b, fun x hx => ?_⟩
    rcases List.mem_cons.1 hx with rfl | hx
    · omega
    · have := h x hx; omega
/-- In any window is worked no more than in one that begins with a duty. -/
theorem wk_most {l : List Du} {W T : Int} (hW : 0 ≤ W) (hT : 0 ≤ T) (h : ∀ d ∈ l, wk l d.a (d.a + W) ≤ T) (x : Int) : wk l x (x + W) ≤ T := by
  by_cases hne : l = []
  · subst hne
    have : wk [] x (x + W) = 0 := cn_none fun t _ _ => rfl
    omega
  obtain ⟨lo, hlo⟩ := bound_lo l
  obtain ⟨hi, hhi⟩ := bound_hi l
  rcases begin_right hW hne (hi - x).toNat x hi hhi (by omega) with h1 | ⟨y, hy, h1⟩
  · omega
  · obtain ⟨d, hd, h2⟩ := begin_left hW (y - lo).toNat y lo hlo (by omega) hy
    have := h d hd; omega
/-- Whether in no window is worked too much. -/
def totB (l : List Du) (W T : Int) : Bool := l.all fun d => decide (wk l d.a (d.a + W) ≤ T) && decide (wk l (d.b - W) d.b ≤ T)
theorem totB_iff {l : List Du} {W T : Int} (hW : 0 ≤ W) (hT : 0 ≤ T) : totB l W T = true ↔ ∀ x, wk l x (x + W) ≤ T := by
  constructor
  · intro h x
    refine wk_most hW hT (fun d hd => ?_) x
    have := List.all_eq_true.1 h d hd
    simp at this; exact this.1
  · intro h
    refine List.all_eq_true.2 fun d hd => ?_
    have h1 := h d.a
    have h2 := h (d.b - W)
    rw [Int.sub_add_cancel] at h2
    simp; exact ⟨h1, h2⟩

/-! the reference's sums -/
def bus1 (d : Du) (x y : Int) : Int := max 0 (min y d.b - max x d.a)
theorem bus1_eq (d : Du) (x y : Int) : bus1 d x y = cn d.on x y := by
  unfold bus1
  by_cases h : max x d.a < min y d.b
  · rw [cn_split (y := max x d.a) (by omega) (by omega), cn_split (x := max x d.a) (y := min y d.b) (by omega) (by omega)]
    rw [cn_none (x := x) (y := max x d.a) fun t t1 t2 => by simp [Du.on]; omega, cn_all (x := max x d.a) (y := min y d.b) (by omega) fun t t1 t2 => by simp [Du.on]; omega, cn_none (x := min y d.b) (y := y) fun t t1 t2 => by simp [Du.on]; omega]
    omega
  · rw [cn_none (x := x) (y := y) fun t t1 t2 => by simp [Du.on]; omega]; omega
/-- No two have a tick in common. -/
def Disj (l : List Du) : Prop := l.Pairwise fun x y => ∀ t, ¬ (x.on t = true ∧ y.on t = true)
/-- The reference's: on a duty, or on another one of their own. -/
def besd (d : Du) (x y : Int) : List Du → Int
  | [] => bus1 d x y
  | z :: l => besd d x y l + (bus1 z x y - bus1 z (max x d.a) (min y d.b))
theorem bus1_meet (z d : Du) (x y : Int) : bus1 z (max x d.a) (min y d.b) = cn (fun t => z.on t && d.on t) x y := by
  rw [bus1_eq]
  by_cases h : max x d.a ≤ min y d.b
  · rw [cn_split (P := fun t => z.on t && d.on t) (y := max x d.a) (by omega) (by omega), cn_split (P := fun t => z.on t && d.on t) (x := max x d.a) (y := min y d.b) (by omega) (by omega)]
    rw [cn_none (P := fun t => z.on t && d.on t) (x := x) (y := max x d.a) fun t t1 t2 => by simp [Du.on]; omega, cn_none (P := fun t => z.on t && d.on t) (x := min y d.b) (y := y) fun t t1 t2 => by simp [Du.on]; omega]
    rw [cn_congr (P := fun t => z.on t && d.on t) (Q := z.on) fun t t1 t2 => by
      have : d.on t = true := by simp [Du.on]; omega
      simp [this]]
    omega
  · rw [cn_empty (by omega)]
    exact (cn_none fun t t1 t2 => by simp [Du.on]; omega).symm
theorem besd_eq (d : Du) (x y : Int) : ∀ l : List Du, Disj l → besd d x y l = wk (d :: l) x y
  | [], _ => by
    rw [besd, bus1_eq]
    exact cn_congr fun t _ _ => by simp [onD]
  | z :: l, h => by
    have hz := List.pairwise_cons.1 h
    rw [besd, besd_eq d x y l hz.2, bus1_eq, bus1_meet]
    have e1 : cn z.on x y = cn (fun t => z.on t && d.on t) x y + cn (fun t => z.on t && !d.on t) x y := cn_add fun t _ _ => by
      cases z.on t <;> cases d.on t <;> simp
    have e2 : wk (d :: z :: l) x y = wk (d :: l) x y + cn (fun t => z.on t && !d.on t) x y := cn_add fun t _ _ => by
      rw [onD_cons, onD_cons, onD_cons]
      cases hz1 : z.on t
      · cases d.on t <;> simp
      · have : onD l t = false := by
          cases ho : onD l t
          · rfl
          · obtain ⟨w, hw, h1, h2⟩ := onD_iff.1 ho
            exact absurd ⟨hz1, by simp [Du.on, h1, h2]⟩ (hz.1 w hw t)
        cases d.on t <;> simp [this]
    omega
end Go.Sx
end
