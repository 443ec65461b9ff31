/- A part of a proof; no conditions. -/
import Derived.Test.YtjpmoggimhmidaaGreatP18
set_option linter.unusedSimpArgs false
set_option linter.unusedVariables false
set_option linter.unusedSectionVars false
section
/- The simp set of the walk. No conditions. -/
namespace Go.Sx
variable [Gls]
@[simp] theorem upds_cons (d : Nat) (x : Bool × V) (L : List (Nat × (Bool × V))) (T : Nat → Bool × V) (k : Nat) : upds ((d, x) :: L) T k = if k = d then x else upds L T k := rfl
@[simp] theorem upds_nil (T : Nat → Bool × V) (k : Nat) : upds [] T k = T k := rfl
@[simp] theorem forget_app (ws : List Nat) (T : Nat → Bool × V) (k : Nat) : forget ws T k = if ws.contains k = true then (true, .top) else T k := rfl
@[simp] theorem topT_app (k : Nat) : topT k = (true, .top) := rfl
@[simp] theorem entry_eq (args : List V) (h : Hp) : entry args h = { t := upds (zipT 0 args) topT, h := h } := rfl
/-- Keeps the simplifier out of the rest. -/
inductive Tg {α : Type} (q : α) : Type where
  | mk : Tg q
/-- A condition to show, then the rest; the walk stops here until it is shown. -/
def Also (c : Prop) (st : St) (k : St → Prop) (_ : Tg k) : Prop := c ∧ k st
/-- The rest, under a condition; the walk stops here until the condition is known. -/
def Hold (c : Prop) (st : St) (k : St → Prop) (_ : Tg k) : Prop := c → k st
@[simp] theorem also_true (st : St) (k : St → Prop) (t : Tg k) : Also True st k t = k st := by simp [Also]
@[simp] theorem hold_true (st : St) (k : St → Prop) (t : Tg k) : Hold True st k t = k st := by simp [Hold]
@[simp] theorem hold_false (st : St) (k : St → Prop) (t : Tg k) : Hold False st k t = True := by simp [Hold]
omit [Gls] in
theorem Also.intro {c : Prop} {st : St} {k : St → Prop} {t : Tg k} (h : c) (h' : c → k st) : Also c st k t := ⟨h, h' h⟩
omit [Gls] in
theorem Hold.intro {c : Prop} {st : St} {k : St → Prop} {t : Tg k} (h : c → k st) : Hold c st k t := h
/-- Op by op. -/
def runC (E : Env) (all : List Oper) : List Oper → St → (St → Prop) → Prop
  | [], st, K => K st
  | o :: r, st, K => match step E all o st with
    | (c, st') => Also c st' (fun st' => runC E all r st' K) .mk
theorem runC_eq (E : Env) (all : List Oper) : ∀ (ops : List Oper) (st : St) (K : St → Prop), runC E all ops st K = ((runL E all ops st).1 ∧ K (runL E all ops st).2)
  | [], st, K => by simp [runC, runL]
  | o :: r, st, K => by
    rw [runC, runL]
    cases hs : step E all o st with
    | mk c st' =>
      simp only [Also]
      rw [runC_eq E all r st' K]
      simp [and_assoc]
@[simp ↓] theorem runC_nil (E : Env) (all : List Oper) (st : St) (K : St → Prop) : runC E all [] st K = K st := rfl
@[simp ↓] theorem runC_cons (E : Env) (all : List Oper) (o : Oper) (r : List Oper) (st : St) (K : St → Prop) : runC E all (o :: r) st K = (match step E all o st with
    | (c, st') => Also c st' (fun st' => runC E all r st' K) .mk) := rfl
def runIC (E : Env) (all : List Oper) (fr : List Nat) : List Nat → St → (St → Prop) → Prop
  | [], st, K => K st
  | i :: l, st, K => match all[i]? with
    | none => runIC E all fr l st K
    | some o => Also ((fr.contains i = true → FreeAt E o st) ∧ (fr.contains (i + 1000) = true → FzOk o st) ∧ (fr.contains (i + 2000) = true → FoOk E all o st) ∧ (fr.contains (i + 3000) = true → NwOk o st)) st (fun st => match step E all o st with
      | (c, st') => Also c st' (fun st' => runIC E all fr l st' K) .mk) .mk
theorem runIC_eq (E : Env) (all : List Oper) (fr : List Nat) : ∀ (l : List Nat) (st : St) (K : St → Prop), runIC E all fr l st K = ((runI E all fr l st).1 ∧ K (runI E all fr l st).2)
  | [], st, K => by simp [runIC, runI]
  | i :: l, st, K => by
    rw [runIC, runI]
    cases ho : all[i]? with
    | none => exact runIC_eq E all fr l st K
    | some o =>
      simp only [Also]
      rw [runIC_eq E all fr l _ K]
      simp [and_assoc]
def runsC (E : Env) (all : List Oper) (fr : List Nat) : List (List Nat) → St → (St → Prop) → Prop
  | [], _, _ => True
  | l :: r, st, K => runIC E all fr l st K ∧ runsC E all fr r st K
theorem runsC_eq (E : Env) (all : List Oper) (fr : List Nat) (cs : List (List Nat)) (st : St) (K : St → Prop) : runs E all fr cs st K = runsC E all fr cs st K := by
  induction cs with
  | nil => rfl
  | cons l r ih => simp only [runs, runsC, runIC_eq, ih]
@[simp ↓] theorem runIC_nil (E : Env) (all : List Oper) (fr : List Nat) (st : St) (K : St → Prop) : runIC E all fr [] st K = K st := rfl
@[simp ↓] theorem runIC_cons (E : Env) (all : List Oper) (fr : List Nat) (i : Nat) (l : List Nat) (st : St) (K : St → Prop) : runIC E all fr (i :: l) st K = (match all[i]? with
    | none => runIC E all fr l st K
    | some o => Also ((fr.contains i = true → FreeAt E o st) ∧ (fr.contains (i + 1000) = true → FzOk o st) ∧ (fr.contains (i + 2000) = true → FoOk E all o st) ∧ (fr.contains (i + 3000) = true → NwOk o st)) st (fun st => match step E all o st with
      | (c, st') => Also c st' (fun st' => runIC E all fr l st' K) .mk) .mk) := rfl
@[simp ↓] theorem runsC_nil (E : Env) (all : List Oper) (fr : List Nat) (st : St) (K : St → Prop) : runsC E all fr [] st K = True := rfl
@[simp ↓] theorem runsC_cons (E : Env) (all : List Oper) (fr : List Nat) (l : List Nat) (r : List (List Nat)) (st : St) (K : St → Prop) : runsC E all fr (l :: r) st K = (runIC E all fr l st K ∧ runsC E all fr r st K) := rfl
def lk : Alts → Nat → Option (List Nat × List (List Nat))
  | [], _ => none
  | (a, p) :: r, id => if id = a then some p else lk r id
@[simp] theorem lk_nil (id : Nat) : lk [] id = none := rfl
@[simp] theorem lk_cons (a : Nat) (p : List Nat × List (List Nat)) (r : Alts) (id : Nat) : lk ((a, p) :: r) id = if id = a then some p else lk r id := rfl
theorem lk_eq (id : Nat) : ∀ (ok : Alts), ok.lookup id = lk ok id
  | [] => rfl
  | (a, p) :: r => by
    rw [lk_cons, List.lookup]
    by_cases h : id = a
    · subst h; simp
    · have h' : (id == a) = false := by simpa using h
      rw [h', if_neg h]; exact lk_eq id r
@[simp] theorem lkf_nil (id : Nat) : lkf [] id = [] := rfl
@[simp] theorem lkf_cons (a : Nat) (p : List Nat) (r : List (Nat × List Nat)) (id : Nat) : lkf ((a, p) :: r) id = if id = a then p else lkf r id := rfl
/-- Some blocks are not written any more. -/
def frzC (l : List Nat) (st : St) (K : St → Prop) (_ : Tg K) : Prop := (frzs l st).1 ∧ K (frzs l st).2
@[simp] theorem frzC_nil (st : St) (K : St → Prop) (t : Tg K) : frzC [] st K t = K st := by simp [frzC, frzs]
@[simp] theorem frzC_cons (k : Nat) (r : List Nat) (st : St) (K : St → Prop) (t : Tg K) : frzC (k :: r) st K t = (match frzK k st with
    | (c, st') => Also c st' (fun st => frzC r st K t) .mk) := by
  simp only [frzC, frzs, Also]
  simp [and_assoc]
/-- A region whose order is drawn. -/
def drawC (o : Option (List Nat × List (List Nat))) (E : Env) (all : List Oper) (st : St) (K : St → Prop) (_ : Tg K) : Prop :=
  match o with
  | none => runC E all all st K
  | some (fr, cs) => runsC E all fr cs st K
@[simp] theorem drawC_none (E : Env) (all : List Oper) (st : St) (K : St → Prop) (t : Tg K) : drawC none E all st K t = runC E all all st K := rfl
@[simp] theorem drawC_some (E : Env) (all : List Oper) (st : St) (K : St → Prop) (t : Tg K) (fr : List Nat) (cs : List (List Nat)) : drawC (some (fr, cs)) E all st K t = runsC E all fr cs st K := rfl
section
variable (E : Env) (ok : Alts) (st : St) (Q : Ex → St → Prop)
@[simp ↓] theorem awp_skip : awp E ok .skip st Q = Q .normal st := rfl
@[simp ↓] theorem awp_ret : awp E ok .ret st Q = Q .ret st := rfl
@[simp ↓] theorem awp_exit (id : Nat) : awp E ok (.exit id) st Q = Q (.exit id) st := rfl
@[simp ↓] theorem awp_region (id : Nat) (ops : Array Oper) : awp E ok (.region id ops false) st Q = frzC (lkf E.frz id) st (fun st => runC E ops.toList ops.toList st (fun st' => Q .normal st')) .mk := by
  simp only [awp, frzC, runC_eq]
@[simp ↓] theorem awp_region_draw (id : Nat) (ops : Array Oper) : awp E ok (.region id ops true) st Q = frzC (lkf E.frz id) st (fun st => drawC (lk ok id) E ops.toList st (fun st' => Q .normal st') .mk) .mk := by
  rw [← lk_eq]
  simp only [awp, drawC, frzC]
  cases ok.lookup id with
  | none => simp only []; rw [runC_eq]
  | some p => obtain ⟨fr, cs⟩ := p; simp only []; rw [runsC_eq]
@[simp ↓] theorem awp_seq (a b : Code) : awp E ok (.seq a b) st Q = awp E ok a st fun e st' => match e with
    | .normal => awp E ok b st' Q
    | e => Q e st' := rfl
@[simp ↓] theorem awp_cond (c : Operand) (x y : Code) : awp E ok (.cond c x y) st Q = (match ev st c with
    | (g, .bool b) => g = true ∧ Hold (b = true) st (fun st => awp E ok x st Q) .mk ∧ Hold (b = false) st (fun st => awp E ok y st Q) .mk
    | (g, .anyb) => g = true ∧ awp E ok x st Q ∧ awp E ok y st Q
    | _ => False) := by
  simp only [awp, Hold]; rfl
@[simp ↓] theorem awp_block (id : Nat) (c : Code) : awp E ok (.block id c) st Q = awp E ok c st fun e st' => match e with
    | .exit i => if i = id then Q .normal st' else Q (.exit i) st'
    | e => Q e st' := rfl
end
omit [Gls] in
theorem hle_refl (h : Hp) : HLe h h = True := eq_true (HLe.refl h)
@[simp] theorem wrap_zero : IntKind.wrap .i64 0 = 0 := wrap_id (by omega) (by omega)
@[simp] theorem wrap_mone : IntKind.wrap .i64 (-1) = -1 := wrap_id (by omega) (by omega)
attribute [simp] appendV hps_over hps_cons hps_nil noH_app hpush_noH hpush_hps hset_hps hget_hps hnext_hps hnext_noH hget_noH
@[simp] theorem vite_true (x y : V) : vite true x y = x := by
  unfold vite
  split
  · rfl
  · split <;> simp_all
  · rfl
@[simp] theorem vite_false (x y : V) : vite false x y = y := by
  unfold vite
  split
  · rfl
  · split <;> simp_all
  · rfl
@[simp] theorem vite_bool (b p q : Bool) : vite b (.bool p) (.bool q) = .bool (if b then p else q) := rfl
@[simp] theorem vite_int (b : Bool) (k : IntKind) (m n : Int) : vite b (.int k m) (.int k n) = .int k (if b then m else n) := by simp [vite]
omit [Gls] in
@[simp] theorem V.len_emp : V.emp.len = some 0 := rfl
omit [Gls] in
@[simp] theorem V.len_nil : V.nil.len = some 0 := rfl
omit [Gls] in
@[simp] theorem V.len_sl (z : Nat) (els : List (List V)) : (V.sl z els).len = some els.length := rfl
omit [Gls] in
@[simp] theorem V.len_bsl (s i n : Nat) : (V.bsl s i n).len = some n := rfl
omit [Gls] in
@[simp] theorem V.len_osl (s i n off len cap : Nat) : (V.osl s i n off len cap).len = some len := rfl
attribute [simp] guardB_bool guardB_off preZ frzHs sClear frzW sCut sCopy takeV srcB hcut_hps frzK frzP frzH_hps fzCs fzRs V.at? fzN fzA FzOk FoOk NwOk nilApp pusher eqTs frz1 ghs ghc runL step sem guardV ev2 ev upd_upds upd_none dstOk valid allv Op.operands ofVal ofVal1 binV unkE hite_same hite_true hite_false zipT
  sAlloc sBox sBuild sBuildSlice sBuildE sLoad sStore sUn sConv sMakeSlice sFieldAddr sField sIndexAddr sIndex sLen sMax sAppendZ sCap sCall sExtract sPick sNil callF lends lend lend1 lendN lendB lendRs lendCs lends1 loadR splice fills fillRows asI optI foldMax sliceV eqV
  resV ressV retV okAll V.cells V.cell1 V.refFree V.refFree1 V.scal V.scal1 V.leaf V.argOk subs1 subs0 sub sub1 sub0
def sr (a n : Nat) : Nat := a >>> n
def an (a b : Nat) : Nat := a &&& b
def pw (n : Nat) : Nat := 2 ^ n
def orN (a b : Nat) : Nat := a ||| b
omit [Gls] in
theorem toNat_ofNat_i64 {a : Nat} (h : a < 9223372036854775808) : (BitVec.ofInt IntKind.i64.bits (a : Int)).toNat = a := by
  rw [show IntKind.i64.bits = 64 from rfl, BitVec.toNat_ofInt]; omega
omit [Gls] in
theorem bit_and {a b : Nat} (ha : a < 9223372036854775808) (hb : b < 9223372036854775808) : bitw .and .i64 (a : Int) (b : Int) = (an a b : Int) := by
  unfold an
  have h := Nat.and_le_left (n := a) (m := b)
  simp only [bitw, BitVec.toNat_and, toNat_ofNat_i64 ha, toNat_ofNat_i64 hb]
  exact wrap_id (by omega) (by omega)
omit [Gls] in
theorem bit_or {a b : Nat} (ha : a < 9223372036854775808) (hb : b < 9223372036854775808) : bitw .or .i64 (a : Int) (b : Int) = (orN a b : Int) := by
  unfold orN
  have h : a ||| b < 2 ^ 63 := Nat.or_lt_two_pow ha hb
  simp only [bitw, BitVec.toNat_or, toNat_ofNat_i64 ha, toNat_ofNat_i64 hb]
  exact wrap_id (by omega) (by omega)
omit [Gls] in
theorem bit_shr (a n : Nat) (hn : n < 64) : shrV .i64 (a : Int) (n : Int) = (sr a n : Int) := by
  unfold sr
  have e : min (n : Int).toNat IntKind.i64.bits = n := by rw [show IntKind.i64.bits = 64 from rfl, Int.toNat_natCast]; omega
  rw [shrV, e, Nat.shiftRight_eq_div_pow, Int.fdiv_eq_ediv_of_nonneg _ (by exact Int.le_of_lt (Int.pow_pos (by decide)))]
  norm_cast
omit [Gls] in
theorem bit_shl (n : Nat) (hn : n < 62) : shlV .i64 1 (n : Int) = (pw n : Int) := by
  unfold pw
  have e : min (n : Int).toNat IntKind.i64.bits = n := by rw [show IntKind.i64.bits = 64 from rfl, Int.toNat_natCast]; omega
  have h : 2 ^ n < 2 ^ 62 := Nat.pow_lt_pow_right (by decide) hn
  rw [shlV, e, Int.one_mul, show ((2 : Int) ^ n) = ((2 ^ n : Nat) : Int) by norm_cast]
  generalize 2 ^ n = x at *
  exact wrap_id (by omega) (by omega)
omit [Gls] in
theorem bit_one (a n : Nat) : an (sr a n) 1 = if a.testBit n then 1 else 0 := by
  unfold an sr
  have h := Nat.testBit_eq_decide_div_mod_eq (x := a) (i := n)
  rw [Nat.shiftRight_eq_div_pow, Nat.and_one_is_mod, h]
  by_cases e : a / 2 ^ n % 2 = 1
  · simp [e]
  · simp [e]; omega
theorem pb {E : Env} {ok : Alts} {fn : Func} {dom : Type} {enc : dom → List V} {dec : List V → dom} {pre : dom → Prop} {res : dom → V} (h : ∀ d : dom, pre d → awp E ok (fn.body.getD .skip) (entry (enc d) noH) fun e st => (e = .normal ∨ e = .ret) ∧ match retV E.P fn.results.toList st with
    | (c, v) => c ∧ sub v (res d)) (hyl : E.yl = none := by rfl) : PureBody E ok fn ⟨dom, enc, dec, pre, res⟩ := ⟨hyl, h⟩
end Go.Sx
end
section
/- From the walks to the contracts of functions; tables. No conditions. -/
set_option linter.unusedSimpArgs false
namespace Go.Sx
open Go.RowKit
variable [Gls]

def tbl (l : List (Nat × Spec)) (f : Nat) : Option Spec := (l.find? fun p => p.1 == f).map (·.2)
@[simp] theorem tbl_nil (f : Nat) : tbl [] f = none := rfl
@[simp] theorem tbl_cons (g : Nat) (S : Spec) (l : List (Nat × Spec)) (f : Nat) : tbl ((g, S) :: l) f = if g = f then some S else tbl l f := by
  simp only [tbl, List.find?_cons]
  by_cases h : g = f
  · subst h; simp
  · have : (g == f) = false := by simpa using h
    simp [this, h]

def LOK (P : Program) (l : List (Nat × Spec)) : Prop := ∀ p ∈ l, FnOK P p.1 p.2
theorem LOK.nil {P : Program} : LOK P [] := fun p h => by cases h
theorem LOK.cons {P : Program} {f : Nat} {S : Spec} {l : List (Nat × Spec)} (h : FnOK P f S) (k : LOK P l) : LOK P ((f, S) :: l) := by
  intro p hp
  rcases List.mem_cons.1 hp with rfl | hp
  · exact h
  · exact k p hp
theorem LOK.tbl {E : Env} {l : List (Nat × Spec)} (hE : E.fn = tbl l) (h : LOK E.P l) : TblOK E := by
  intro f S hf
  rw [hE] at hf
  unfold Sx.tbl at hf
  cases hx : l.find? fun p => p.1 == f with
  | none => simp [hx] at hf
  | some p =>
    simp [hx] at hf
    subst hf
    have h1 := h p (List.mem_of_find?_eq_some hx)
    have h2 := List.find?_some hx
    simp only [beq_iff_eq] at h2
    rw [← h2]; exact h1

omit [Gls] in
theorem run_call {P : Program} {f : FuncId} {fn : Func} {c : Code} (hf : P.funcs[f]? = some fn) (hn : (fn.name == "runtime.NumGoroutine") = false) (hb : fn.body = some c) (args : Array Value) (w : World) : (callFunc f args).run P w = .ok (.enter f args) w := by
  unfold callFunc
  simp only [Sem.run_bind, run_program, Result.andThen_ok, hf, hn, hb, Option.isNone_some, Bool.false_eq_true, if_false, Sem.run_pure]

theorem pure_fn {E : Env} {l : List (Nat × Spec)} (hE : E.fn = tbl l) (hl : LOK E.P l) {ok : Alts} {f : FuncId} {fn : Func} {S : PSpec} (hf : E.P.funcs[f]? = some fn) (hn : (fn.name == "runtime.NumGoroutine") = false) (hbs : fn.body.isSome = true) (hok : drawsOk E ok (fn.body.getD .skip) = true) (hnt : fn.ntmps = E.nt) (hlen : ∀ d, S.pre d → (S.enc d).length ≤ E.nt)
    (h : PureBody E ok fn S) : FnOK E.P f (.pure S) := by
  obtain ⟨c, hc⟩ := Option.isSome_iff_exists.1 hbs
  rw [hc] at hok
  exact { call := run_call hf hn hc, pure := fun S' hS => (by cases hS; exact pure_ok (hl.tbl hE) hf hc hok hnt hlen h), heap := fun S' hS => (by cases hS), iter := fun S' hS => (by cases hS) }

theorem heap_fn {E : Env} {l : List (Nat × Spec)} (hE : E.fn = tbl l) (hl : LOK E.P l) {ok : Alts} {f : FuncId} {fn : Func} {S : HSpec} (hf : E.P.funcs[f]? = some fn) (hn : (fn.name == "runtime.NumGoroutine") = false) (hbs : fn.body.isSome = true) (hok : drawsOk E ok (fn.body.getD .skip) = true) (hnt : fn.ntmps = E.nt) (hlen : ∀ args h, (S.go args h).c → args.length ≤ E.nt)
    (h : HeapBody E ok fn S) (hyl : E.yl = none := by rfl) : FnOK E.P f (.heap S) := by
  obtain ⟨c, hc⟩ := Option.isSome_iff_exists.1 hbs
  rw [hc] at hok
  exact { call := run_call hf hn hc, pure := fun S' hS => (by cases hS), heap := fun S' hS => (by cases hS; exact heap_ok (hl.tbl hE) hf hc hok hnt hlen h hyl), iter := fun S' hS => (by cases hS) }

theorem heap_fnG {E : Env} {l : List (Nat × Spec)} (hE : E.fn = tbl l) (hl : LOK E.P l) {ok : Alts} {f : FuncId} {fn : Func} {S : HSpec} (hf : E.P.funcs[f]? = some fn) (hn : (fn.name == "runtime.NumGoroutine") = false) (hbs : fn.body.isSome = true) (hok : drawsOk E ok (fn.body.getD .skip) = true) (hnt : fn.ntmps = E.nt) (hlen : ∀ args h, (S.go args h).c → args.length ≤ E.nt)
    (h : HeapBodyG E ok fn S) (hyl : E.yl = none := by rfl) : FnOK E.P f (.heap S) := by
  obtain ⟨c, hc⟩ := Option.isSome_iff_exists.1 hbs
  rw [hc] at hok
  exact { call := run_call hf hn hc, pure := fun S' hS => (by cases hS), heap := fun S' hS => (by cases hS; exact heap_okG (hl.tbl hE) hf hc hok hnt hlen h hyl), iter := fun S' hS => (by cases hS) }

theorem iter_fn {E : Env} {l : List (Nat × Spec)} (hE : E.fn = tbl l) (hl : LOK E.P l) {ok : Alts} {f : FuncId} {fn : Func} {S : Nat → HSpec → HSpec} (hf : E.P.funcs[f]? = some fn) (hn : (fn.name == "runtime.NumGoroutine") = false) (hbs : fn.body.isSome = true) (hok : ∀ l Y, drawsOk { E with yl := some (l, Y) } ok (fn.body.getD .skip) = true) (hnt : fn.ntmps = E.nt) (hlen : ∀ l Y args h, ((S l Y).go args h).c → args.length ≤ E.nt)
    (hkp : KeepY E) (h : IterBody E ok fn S) (hyl : E.yl = none := by rfl) (hkey : E.key + E.nt < YS := by decide) : FnOK E.P f (.iter S) := by
  obtain ⟨c, hc⟩ := Option.isSome_iff_exists.1 hbs
  rw [hc] at hok
  exact { call := run_call hf hn hc, pure := fun S' hS => (by cases hS), heap := fun S' hS => (by cases hS), iter := fun S' hS => (by cases hS; exact iter_ok (hl.tbl hE) hf hc hok hnt hlen hyl (fun d hd => by omega) hkp h) }

/-- A pointer into one immutable row. -/
def V.peek : V → V
  | .ip _ els e j => (els.getD e []).getD j .top
  | _ => .top
def V.caps : V → List V
  | .fn _ cs => cs
  | _ => []
def V.cs : V → List V
  | .agg cs => cs
  | _ => []
omit [Gls] in
theorem rowInt_ri : rowInt ∘ ri = id := by funext n; rfl
@[simp] theorem map_rowInt (l : List Int) : (l.map ri).map rowInt = l := by rw [List.map_map, rowInt_ri, List.map_id]
@[simp] theorem map_rowInt' (l : List Int) : l.map (rowInt ∘ ri) = l := by rw [rowInt_ri, List.map_id]
attribute [simp] V.peek V.caps V.cs V.toInt V.toBool V.toInts V.rows rowInt rawV rawsV rawR
omit [Gls] in
theorem ri_eq (n : Int) : ri n = [.int .i64 n] := rfl
end Go.Sx
end
