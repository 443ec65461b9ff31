/- A part of a proof; no conditions. -/
import Derived.Test.YtnpdjaikmdagmaaGreatDoorP09
import Derived.WalkKit
set_option linter.unusedSimpArgs false
set_option linter.unusedVariables false
set_option linter.unusedSectionVars false
section
/- The simp set of the walk. No conditions. -/
namespace Go.Sx
variable [Gls]
@[simp] theorem upds_cons (d : Nat) (x : Bool × V) (L : List (Nat × (Bool × V))) (T : Nat → Bool × V) (k : Nat) : upds ((d, x) :: L) T k = if k = d then x else upds L T k := rfl
@[simp] theorem upds_nil (T : Nat → Bool × V) (k : Nat) : upds [] T k = T k := rfl
@[simp] theorem forget_app (ws : List Nat) (T : Nat → Bool × V) (k : Nat) : forget ws T k = if ws.contains k = true then (true, .top) else T k := rfl
@[simp] theorem topT_app (k : Nat) : topT k = (true, .top) := rfl
@[simp] theorem entry_eq (args : List V) (h : Hp) : entry args h = { t := upds (zipT 0 args) topT, h := h } := rfl
/-- Keeps the simplifier out of the rest. -/
inductive Tg {α : Type} (q : α) : Type where
  | mk : Tg q
/-- A condition to show, then the rest; the walk stops here until it is shown. -/
def Also (c : Prop) (st : St) (k : St → Prop) (_ : Tg k) : Prop := c ∧ k st
/-- The rest, under a condition; the walk stops here until the condition is known. -/
def Hold (c : Prop) (st : St) (k : St → Prop) (_ : Tg k) : Prop := c → k st
@[simp] theorem also_true (st : St) (k : St → Prop) (t : Tg k) : Also True st k t = k st := by simp [Also]
@[simp] theorem hold_true (st : St) (k : St → Prop) (t : Tg k) : Hold True st k t = k st := by simp [Hold]
@[simp] theorem hold_false (st : St) (k : St → Prop) (t : Tg k) : Hold False st k t = True := by simp [Hold]
omit [Gls] in
theorem Also.intro {c : Prop} {st : St} {k : St → Prop} {t : Tg k} (h : c) (h' : c → k st) : Also c st k t := ⟨h, h' h⟩
omit [Gls] in
theorem Hold.intro {c : Prop} {st : St} {k : St → Prop} {t : Tg k} (h : c → k st) : Hold c st k t := h
/-- Op by op. -/
def runC (E : Env) (all : List Oper) : List Oper → St → (St → Prop) → Prop
  | [], st, K => K st
  | o :: r, st, K => match step E all o st with
    | (c, st') => Also c st' (fun st' => runC E all r st' K) .mk
theorem runC_eq (E : Env) (all : List Oper) : ∀ (ops : List Oper) (st : St) (K : St → Prop), runC E all ops st K = ((runL E all ops st).1 ∧ K (runL E all ops st).2)
  | [], st, K => by simp [runC, runL]
  | o :: r, st, K => by
    rw [runC, runL]
    cases hs : step E all o st with
    | mk c st' =>
      simp only [Also]
      rw [runC_eq E all r st' K]
      simp [and_assoc]
@[simp ↓] theorem runC_nil (E : Env) (all : List Oper) (st : St) (K : St → Prop) : runC E all [] st K = K st := rfl
@[simp ↓] theorem runC_cons (E : Env) (all : List Oper) (o : Oper) (r : List Oper) (st : St) (K : St → Prop) : runC E all (o :: r) st K = (match step E all o st with
    | (c, st') => Also c st' (fun st' => runC E all r st' K) .mk) := rfl
def runIC (E : Env) (all : List Oper) (fr : List Nat) : List Nat → St → (St → Prop) → Prop
  | [], st, K => K st
  | i :: l, st, K => match all[i]? with
    | none => runIC E all fr l st K
    | some o => Also ((fr.contains i = true → FreeAt E o st) ∧ (fr.contains (i + 1000) = true → FzOk o st) ∧ (fr.contains (i + 2000) = true → FoOk E all o st) ∧ (fr.contains (i + 3000) = true → NwOk o st)) st (fun st => match step E all o st with
      | (c, st') => Also c st' (fun st' => runIC E all fr l st' K) .mk) .mk
theorem runIC_eq (E : Env) (all : List Oper) (fr : List Nat) : ∀ (l : List Nat) (st : St) (K : St → Prop), runIC E all fr l st K = ((runI E all fr l st).1 ∧ K (runI E all fr l st).2)
  | [], st, K => by simp [runIC, runI]
  | i :: l, st, K => by
    rw [runIC, runI]
    cases ho : all[i]? with
    | none => exact runIC_eq E all fr l st K
    | some o =>
      simp only [Also]
      rw [runIC_eq E all fr l _ K]
      simp [and_assoc]
def runsC (E : Env) (all : List Oper) (fr : List Nat) : List (List Nat) → St → (St → Prop) → Prop
  | [], _, _ => True
  | l :: r, st, K => runIC E all fr l st K ∧ runsC E all fr r st K
theorem runsC_eq (E : Env) (all : List Oper) (fr : List Nat) (cs : List (List Nat)) (st : St) (K : St → Prop) : runs E all fr cs st K = runsC E all fr cs st K := by
  induction cs with
  | nil => rfl
  | cons l r ih => simp only [runs, runsC, runIC_eq, ih]
@[simp ↓] theorem runIC_nil (E : Env) (all : List Oper) (fr : List Nat) (st : St) (K : St → Prop) : runIC E all fr [] st K = K st := rfl
@[simp ↓] theorem runIC_cons (E : Env) (all : List Oper) (fr : List Nat) (i : Nat) (l : List Nat) (st : St) (K : St → Prop) : runIC E all fr (i :: l) st K = (match all[i]? with
    | none => runIC E all fr l st K
    | some o => Also ((fr.contains i = true → FreeAt E o st) ∧ (fr.contains (i + 1000) = true → FzOk o st) ∧ (fr.contains (i + 2000) = true → FoOk E all o st) ∧ (fr.contains (i + 3000) = true → NwOk o st)) st (fun st => match step E all o st with
      | (c, st') => Also c st' (fun st' => runIC E all fr l st' K) .mk) .mk) := rfl
@[simp ↓] theorem runsC_nil (E : Env) (all : List Oper) (fr : List Nat) (st : St) (K : St → Prop) : runsC E all fr [] st K = True := rfl
@[simp ↓] theorem runsC_cons (E : Env) (all : List Oper) (fr : List Nat) (l : List Nat) (r : List (List Nat)) (st : St) (K : St → Prop) : runsC E all fr (l :: r) st K = (runIC E all fr l st K ∧ runsC E all fr r st K) := rfl
def lk : Alts → Nat → Option (List Nat × List (List Nat))
  | [], _ => none
  | (a, p) :: r, id => if id = a then some p else lk r id
@[simp] theorem lk_nil (id : Nat) : lk [] id = none := rfl
@[simp] theorem lk_cons (a : Nat) (p : List Nat × List (List Nat)) (r : Alts) (id : Nat) : lk ((a, p) :: r) id = if id = a then some p else lk r id := rfl
theorem lk_eq (id : Nat) : ∀ (ok : Alts), ok.lookup id = lk ok id
  | [] => rfl
  | (a, p) :: r => by
    rw [lk_cons, List.lookup]
    by_cases h : id = a
    · subst h; simp
    · have h' : (id == a) = false := by simpa using h
      rw [h', if_neg h]; exact lk_eq id r
@[simp] theorem lkf_nil (id : Nat) : lkf [] id = [] := rfl
@[simp] theorem lkf_cons (a : Nat) (p : List Nat) (r : List (Nat × List Nat)) (id : Nat) : lkf ((a, p) :: r) id = if id = a then p else lkf r id := rfl
/-- Some blocks are not written any more. -/
def frzC (l : List Nat) (st : St) (K : St → Prop) (_ : Tg K) : Prop := (frzs l st).1 ∧ K (frzs l st).2
@[simp] theorem frzC_nil (st : St) (K : St → Prop) (t : Tg K) : frzC [] st K t = K st := by simp [frzC, frzs]
@[simp] theorem frzC_cons (k : Nat) (r : List Nat) (st : St) (K : St → Prop) (t : Tg K) : frzC (k :: r) st K t = (match frzK k st with
    | (c, st') => Also c st' (fun st => frzC r st K t) .mk) := by
  simp only [frzC, frzs, Also]
  simp [and_assoc]
/-- A region whose order is drawn. -/
def drawC (o : Option (List Nat × List (List Nat))) (E : Env) (all : List Oper) (st : St) (K : St → Prop) (_ : Tg K) : Prop :=
  match o with
  | none => runC E all all st K
  | some (fr, cs) => runsC E all fr cs st K
@[simp] theorem drawC_none (E : Env) (all : List Oper) (st : St) (K : St → Prop) (t : Tg K) : drawC none E all st K t = runC E all all st K := rfl
@[simp] theorem drawC_some (E : Env) (all : List Oper) (st : St) (K : St → Prop) (t : Tg K) (fr : List Nat) (cs : List (List Nat)) : drawC (some (fr, cs)) E all st K t = runsC E all fr cs st K := rfl
section
variable (E : Env) (ok : Alts) (st : St) (Q : Ex → St → Prop)
@[simp ↓] theorem awp_skip : awp E ok .skip st Q = Q .normal st := rfl
@[simp ↓] theorem awp_ret : awp E ok .ret st Q = Q .ret st := rfl
@[simp ↓] theorem awp_exit (id : Nat) : awp E ok (.exit id) st Q = Q (.exit id) st := rfl
@[simp ↓] theorem awp_region (id : Nat) (ops : Array Oper) : awp E ok (.region id ops false) st Q = frzC (lkf E.frz id) st (fun st => runC E ops.toList ops.toList st (fun st' => Q .normal st')) .mk := by
  simp only [awp, frzC, runC_eq]
@[simp ↓] theorem awp_region_draw (id : Nat) (ops : Array Oper) : awp E ok (.region id ops true) st Q = frzC (lkf E.frz id) st (fun st => drawC (lk ok id) E ops.toList st (fun st' => Q .normal st') .mk) .mk := by
  rw [← lk_eq]
  simp only [awp, drawC, frzC]
  cases ok.lookup id with
  | none => simp only []; rw [runC_eq]
  | some p => obtain ⟨fr, cs⟩ := p; simp only []; rw [runsC_eq]
@[simp ↓] theorem awp_seq (a b : Code) : awp E ok (.seq a b) st Q = awp E ok a st fun e st' => match e with
    | .normal => awp E ok b st' Q
    | e => Q e st' := rfl
@[simp ↓] theorem awp_cond (c : Operand) (x y : Code) : awp E ok (.cond c x y) st Q = (match ev st c with
    | (g, .bool b) => g = true ∧ Hold (b = true) st (fun st => awp E ok x st Q) .mk ∧ Hold (b = false) st (fun st => awp E ok y st Q) .mk
    | (g, .anyb) => g = true ∧ awp E ok x st Q ∧ awp E ok y st Q
    | _ => False) := by
  simp only [awp, Hold]; rfl
@[simp ↓] theorem awp_block (id : Nat) (c : Code) : awp E ok (.block id c) st Q = awp E ok c st fun e st' => match e with
    | .exit i => if i = id then Q .normal st' else Q (.exit i) st'
    | e => Q e st' := rfl
end
omit [Gls] in
theorem hle_refl (h : Hp) : HLe h h = True := eq_true (HLe.refl h)
@[simp] theorem wrap_zero : IntKind.wrap .i64 0 = 0 := wrap_id (by omega) (by omega)
@[simp] theorem wrap_mone : IntKind.wrap .i64 (-1) = -1 := wrap_id (by omega) (by omega)
attribute [simp] appendV hps_over hps_cons hps_nil noH_app hpush_noH hpush_hps hset_hps hget_hps hnext_hps hnext_noH hget_noH
@[simp] theorem vite_true (x y : V) : vite true x y = x := by
  unfold vite
  split
  · rfl
  · split <;> simp_all
  · rfl
@[simp] theorem vite_false (x y : V) : vite false x y = y := by
  unfold vite
  split
  · rfl
  · split <;> simp_all
  · rfl
@[simp] theorem vite_bool (b p q : Bool) : vite b (.bool p) (.bool q) = .bool (if b then p else q) := rfl
@[simp] theorem vite_int (b : Bool) (k : IntKind) (m n : Int) : vite b (.int k m) (.int k n) = .int k (if b then m else n) := by simp [vite]
omit [Gls] in
@[simp] theorem V.len_emp : V.emp.len = some 0 := rfl
omit [Gls] in
@[simp] theorem V.len_nil : V.nil.len = some 0 := rfl
omit [Gls] in
@[simp] theorem V.len_sl (z : Nat) (els : List (List V)) : (V.sl z els).len = some els.length := rfl
omit [Gls] in
@[simp] theorem V.len_bsl (s i n : Nat) : (V.bsl s i n).len = some n := rfl
omit [Gls] in
@[simp] theorem V.len_osl (s i n off len cap : Nat) : (V.osl s i n off len cap).len = some len := rfl
attribute [simp] guardB_bool guardB_off preZ frzHs sClear frzW sCut sCopy takeV srcB hcut_hps frzK frzP frzH_hps fzCs fzRs V.at? fzN fzA FzOk FoOk NwOk nilApp pusher eqTs frz1 ghs ghc runL step sem guardV ev2 ev upd_upds upd_none dstOk valid allv Op.operands ofVal ofVal1 binV unkE hite_same hite_true hite_false zipT
  sAlloc sBox sBuild sBuildSlice sBuildE sLoad sStore sUn sConv sMakeSlice sFieldAddr sField sIndexAddr sIndex sLen sMax sAppendZ sCap sCall sExtract sPick sNil callF lends lend lend1 lendN lendB lendRs lendCs lends1 loadR splice fills fillRows asI optI foldMax sliceV eqV
  resV ressV retV okAll V.cells V.cell1 V.refFree V.refFree1 V.scal V.scal1 V.leaf V.argOk subs1 subs0 sub sub1 sub0
def sr (a n : Nat) : Nat := a >>> n
def an (a b : Nat) : Nat := a &&& b
def pw (n : Nat) : Nat := 2 ^ n
def orN (a b : Nat) : Nat := a ||| b
omit [Gls] in
theorem toNat_ofNat_i64 {a : Nat} (h : a < 9223372036854775808) : (BitVec.ofInt IntKind.i64.bits (a : Int)).toNat = a := by
  rw [show IntKind.i64.bits = 64 from rfl, BitVec.toNat_ofInt]; omega
omit [Gls] in
theorem bit_and {a b : Nat} (ha : a < 9223372036854775808) (hb : b < 9223372036854775808) : bitw .and .i64 (a : Int) (b : Int) = (an a b : Int) := by
  unfold an
  have h := Nat.and_le_left (n := a) (m := b)
  simp only [bitw, BitVec.toNat_and, toNat_ofNat_i64 ha, toNat_ofNat_i64 hb]
  exact wrap_id (by omega) (by omega)
omit [Gls] in
theorem bit_or {a b : Nat} (ha : a < 9223372036854775808) (hb : b < 9223372036854775808) : bitw .or .i64 (a : Int) (b : Int) = (orN a b : Int) := by
  unfold orN
  have h : a ||| b < 2 ^ 63 := Nat.or_lt_two_pow ha hb
  simp only [bitw, BitVec.toNat_or, toNat_ofNat_i64 ha, toNat_ofNat_i64 hb]
  exact wrap_id (by omega) (by omega)
omit [Gls] in
theorem bit_shr (a n : Nat) (hn : n < 64) : shrV .i64 (a : Int) (n : Int) = (sr a n : Int) := by
  unfold sr
  have e : min (n : Int).toNat IntKind.i64.bits = n := by rw [show IntKind.i64.bits = 64 from rfl, Int.toNat_natCast]; omega
  rw [shrV, e, Nat.shiftRight_eq_div_pow, Int.fdiv_eq_ediv_of_nonneg _ (by exact Int.le_of_lt (Int.pow_pos (by decide)))]
  norm_cast
omit [Gls] in
theorem bit_shl (n : Nat) (hn : n < 62) : shlV .i64 1 (n : Int) = (pw n : Int) := by
  unfold pw
  have e : min (n : Int).toNat IntKind.i64.bits = n := by rw [show IntKind.i64.bits = 64 from rfl, Int.toNat_natCast]; omega
  have h : 2 ^ n < 2 ^ 62 := Nat.pow_lt_pow_right (by decide) hn
  rw [shlV, e, Int.one_mul, show ((2 : Int) ^ n) = ((2 ^ n : Nat) : Int) by norm_cast]
  generalize 2 ^ n = x at *
  exact wrap_id (by omega) (by omega)
omit [Gls] in
theorem bit_one (a n : Nat) : an (sr a n) 1 = if a.testBit n then 1 else 0 := by
  unfold an sr
  have h := Nat.testBit_eq_decide_div_mod_eq (x := a) (i := n)
  rw [Nat.shiftRight_eq_div_pow, Nat.and_one_is_mod, h]
  by_cases e : a / 2 ^ n % 2 = 1
  · simp [e]
  · simp [e]; omega
theorem pb {E : Env} {ok : Alts} {fn : Func} {dom : Type} {enc : dom → List V} {dec : List V → dom} {pre : dom → Prop} {res : dom → V} (h : ∀ d : dom, pre d → awp E ok (fn.body.getD .skip) (entry (enc d) noH) fun e st => (e = .normal ∨ e = .ret) ∧ match retV E.P fn.results.toList st with
    | (c, v) => c ∧ sub v (res d)) (hyl : E.yl = none := by rfl) : PureBody E ok fn ⟨dom, enc, dec, pre, res⟩ := ⟨hyl, h⟩
end Go.Sx
end
section
/- From the walks to the contracts of functions; tables. No conditions. -/
set_option linter.unusedSimpArgs false
namespace Go.Sx
open Go.RowKit
variable [Gls]

def tbl (l : List (Nat × Spec)) (f : Nat) : Option Spec := (l.find? fun p => p.1 == f).map (·.2)
@[simp] theorem tbl_nil (f : Nat) : tbl [] f = none := rfl
@[simp] theorem tbl_cons (g : Nat) (S : Spec) (l : List (Nat × Spec)) (f : Nat) : tbl ((g, S) :: l) f = if g = f then some S else tbl l f := by
  simp only [tbl, List.find?_cons]
  by_cases h : g = f
  · subst h; simp
  · have : (g == f) = false := by simpa using h
    simp [this, h]

def LOK (P : Program) (l : List (Nat × Spec)) : Prop := ∀ p ∈ l, FnOK P p.1 p.2
theorem LOK.nil {P : Program} : LOK P [] := fun p h => by cases h
theorem LOK.cons {P : Program} {f : Nat} {S : Spec} {l : List (Nat × Spec)} (h : FnOK P f S) (k : LOK P l) : LOK P ((f, S) :: l) := by
  intro p hp
  rcases List.mem_cons.1 hp with rfl | hp
  · exact h
  · exact k p hp
theorem LOK.tbl {E : Env} {l : List (Nat × Spec)} (hE : E.fn = tbl l) (h : LOK E.P l) : TblOK E := by
  intro f S hf
  rw [hE] at hf
  unfold Sx.tbl at hf
  cases hx : l.find? fun p => p.1 == f with
  | none => simp [hx] at hf
  | some p =>
    simp [hx] at hf
    subst hf
    have h1 := h p (List.mem_of_find?_eq_some hx)
    have h2 := List.find?_some hx
    simp only [beq_iff_eq] at h2
    rw [← h2]; exact h1

omit [Gls] in
theorem run_call {P : Program} {f : FuncId} {fn : Func} {c : Code} (hf : P.funcs[f]? = some fn) (hn : (fn.name == "runtime.NumGoroutine") = false) (hb : fn.body = some c) (args : Array Value) (w : World) : (callFunc f args).run P w = .ok (.enter f args) w := by
  unfold callFunc
  simp only [Sem.run_bind, run_program, Result.andThen_ok, hf, hn, hb, Option.isNone_some, Bool.false_eq_true, if_false, Sem.run_pure]

theorem pure_fn {E : Env} {l : List (Nat × Spec)} (hE : E.fn = tbl l) (hl : LOK E.P l) {ok : Alts} {f : FuncId} {fn : Func} {S : PSpec} (hf : E.P.funcs[f]? = some fn) (hn : (fn.name == "runtime.NumGoroutine") = false) (hbs : fn.body.isSome = true) (hok : drawsOk E ok (fn.body.getD .skip) = true) (hnt : fn.ntmps = E.nt) (hlen : ∀ d, S.pre d → (S.enc d).length ≤ E.nt)
    (h : PureBody E ok fn S) : FnOK E.P f (.pure S) := by
  obtain ⟨c, hc⟩ := Option.isSome_iff_exists.1 hbs
  rw [hc] at hok
  exact { call := run_call hf hn hc, pure := fun S' hS => (by cases hS; exact pure_ok (hl.tbl hE) hf hc hok hnt hlen h), heap := fun S' hS => (by cases hS), iter := fun S' hS => (by cases hS) }

theorem heap_fn {E : Env} {l : List (Nat × Spec)} (hE : E.fn = tbl l) (hl : LOK E.P l) {ok : Alts} {f : FuncId} {fn : Func} {S : HSpec} (hf : E.P.funcs[f]? = some fn) (hn : (fn.name == "runtime.NumGoroutine") = false) (hbs : fn.body.isSome = true) (hok : drawsOk E ok (fn.body.getD .skip) = true) (hnt : fn.ntmps = E.nt) (hlen : ∀ args h, (S.go args h).c → args.length ≤ E.nt)
    (h : HeapBody E ok fn S) (hyl : E.yl = none := by rfl) : FnOK E.P f (.heap S) := by
  obtain ⟨c, hc⟩ := Option.isSome_iff_exists.1 hbs
  rw [hc] at hok
  exact { call := run_call hf hn hc, pure := fun S' hS => (by cases hS), heap := fun S' hS => (by cases hS; exact heap_ok (hl.tbl hE) hf hc hok hnt hlen h hyl), iter := fun S' hS => (by cases hS) }

theorem heap_fnG {E : Env} {l : List (Nat × Spec)} (hE : E.fn = tbl l) (hl : LOK E.P l) {ok : Alts} {f : FuncId} {fn : Func} {S : HSpec} (hf : E.P.funcs[f]? = some fn) (hn : (fn.name == "runtime.NumGoroutine") = false) (hbs : fn.body.isSome = true) (hok : drawsOk E ok (fn.body.getD .skip) = true) (hnt : fn.ntmps = E.nt) (hlen : ∀ args h, (S.go args h).c → args.length ≤ E.nt)
    (h : HeapBodyG E ok fn S) (hyl : E.yl = none := by rfl) : FnOK E.P f (.heap S) := by
  obtain ⟨c, hc⟩ := Option.isSome_iff_exists.1 hbs
  rw [hc] at hok
  exact { call := run_call hf hn hc, pure := fun S' hS => (by cases hS), heap := fun S' hS => (by cases hS; exact heap_okG (hl.tbl hE) hf hc hok hnt hlen h hyl), iter := fun S' hS => (by cases hS) }

theorem iter_fn {E : Env} {l : List (Nat × Spec)} (hE : E.fn = tbl l) (hl : LOK E.P l) {ok : Alts} {f : FuncId} {fn : Func} {S : Nat → HSpec → HSpec} (hf : E.P.funcs[f]? = some fn) (hn : (fn.name == "runtime.NumGoroutine") = false) (hbs : fn.body.isSome = true) (hok : ∀ l Y, drawsOk { E with yl := some (l, Y) } ok (fn.body.getD .skip) = true) (hnt : fn.ntmps = E.nt) (hlen : ∀ l Y args h, ((S l Y).go args h).c → args.length ≤ E.nt)
    (hkp : KeepY E) (h : IterBody E ok fn S) (hyl : E.yl = none := by rfl) (hkey : E.key + E.nt < YS := by decide) : FnOK E.P f (.iter S) := by
  obtain ⟨c, hc⟩ := Option.isSome_iff_exists.1 hbs
  rw [hc] at hok
  exact { call := run_call hf hn hc, pure := fun S' hS => (by cases hS), heap := fun S' hS => (by cases hS), iter := fun S' hS => (by cases hS; exact iter_ok (hl.tbl hE) hf hc hok hnt hlen hyl (fun d hd => by omega) hkp h) }

/-- A pointer into one immutable row. -/
def V.peek : V → V
  | .ip _ els e j => (els.getD e []).getD j .top
  | _ => .top
def V.caps : V → List V
  | .fn _ cs => cs
  | _ => []
def V.cs : V → List V
  | .agg cs => cs
  | _ => []
omit [Gls] in
theorem rowInt_ri : rowInt ∘ ri = id := by funext n; rfl
@[simp] theorem map_rowInt (l : List Int) : (l.map ri).map rowInt = l := by rw [List.map_map, rowInt_ri, List.map_id]
@[simp] theorem map_rowInt' (l : List Int) : l.map (rowInt ∘ ri) = l := by rw [rowInt_ri, List.map_id]
attribute [simp] V.peek V.caps V.cs V.toInt V.toBool V.toInts V.rows rowInt rawV rawsV rawR
omit [Gls] in
theorem ri_eq (n : Int) : ri n = [.int .i64 n] := rfl
end Go.Sx
end
section
/- Loops over functions: rules. No conditions. -/
set_option linter.unusedSimpArgs false
namespace Go.Sx
open Go.RowKit
variable [Gls]

omit [Gls] in
theorem hfl_ys (h : Hp) (b : Bool) : hfl h b YS = { base := hnext h YS, blks := [], fl := b } := by simp [hfl]
omit [Gls] in
theorem hfl_ne (h : Hp) (b : Bool) {k : Nat} (hk : k ≠ YS) : hfl h b k = h k := by simp [hfl, hk]
omit [Gls] in
theorem hfl_self {h : Hp} (h1 : (h YS).blks = []) (h2 : (h YS).fl = false) : hfl h false = h := by
  funext k
  unfold hfl
  split
  · rename_i e
    subst e
    cases hh : h YS with
    | mk base blks fl =>
      rw [hh] at h1 h2
      simp only at h1 h2
      subst h1 h2
      simp [hnext, hh]
  · rfl
omit [Gls] in
theorem hps_app (L L' : List (Nat × Site)) (H : Hp) : hps L (hps L' H) = hps (L ++ L') H := by
  funext k
  induction L with
  | nil => rfl
  | cons p L ih =>
    obtain ⟨a, S⟩ := p
    simp only [List.cons_append, hps]
    split
    · rfl
    · exact ih
omit [Gls] in
theorem hps_mem {L : List (Nat × Site)} {H H' : Hp} {k : Nat} (h : k ∈ L.map (·.1)) : hps L H k = hps L H' k := by
  induction L with
  | nil => simp at h
  | cons p L ih =>
    obtain ⟨a, S⟩ := p
    simp only [hps]
    split
    · rfl
    · rename_i hne
      refine ih ?_
      simp only [List.map_cons, List.mem_cons] at h
      rcases h with h | h
      · exact absurd h hne
      · exact h
omit [Gls] in
theorem hps_self {L : List (Nat × Site)} {H : Hp} (h : ∀ k ∈ L.map (·.1), H k = hps L noH k) : hps L H = H := by
  funext k
  by_cases hk : k ∈ L.map (·.1)
  · rw [h k hk]; exact hps_mem hk
  · exact hps_not hk

/-- What a round says of a heap is no matter of the iterator's own sites. -/
structure Loc (Y : HSpec) (own ro : List Nat) : Prop where
  loc : ∀ (L : List (Nat × Site)), (∀ k ∈ L.map (·.1), k ∈ own) → ∀ x h, (Y.go x h).c → (Y.go x (hps L h)).c ∧ (Y.go x (hps L h)).v = (Y.go x h).v ∧ (Y.go x (hps L h)).h = hps L (Y.go x h).h
  ro : ∀ x h, (Y.go x h).c → ∀ k ∈ ro, (Y.go x h).h k = h k
  vb : ∀ x h, (Y.go x h).c → ∃ b, (Y.go x h).v = .bool b
  ys : ∀ x h, (Y.go x h).c → ((h YS).blks = [] ∧ (h YS).fl = false) ∧ ((Y.go x h).v = .bool true → ((Y.go x h).h YS) = h YS)

omit [Gls] in
theorem Loc.go {Y : HSpec} {own ro : List Nat} (hL : Loc Y own ro) {x : List V} {h : Hp} (hc : (Y.go x h).c) {b : Bool} (hv : (Y.go x h).v = .bool b) (L : List (Nat × Site)) (hk : (L.map (·.1)).all (fun k => own.contains k) = true := by first | rfl | simp) :
    Y.go x (hps L h) = ⟨True, .bool b, hps L (Y.go x h).h⟩ := by
  obtain ⟨h1, h2, h3⟩ := hL.loc L (fun k hm => by have := List.all_eq_true.1 hk k hm; simpa [List.contains_eq_mem] using this) x h hc
  cases hy : Y.go x (hps L h) with
  | mk c v h' =>
    rw [hy] at h1 h2 h3
    simp only at h1 h2 h3
    rw [h2, hv, h3, eq_true h1]

/-- The rounds of a list, one by one, up to the first that says 'no more'. -/
def feed (Y : HSpec) : List (List V) → Hp → Prop × Hp
  | [], h => (True, h)
  | x :: r, h => match Y.go x h with
    | ⟨c, .bool true, h'⟩ => (c ∧ (feed Y r h').1, (feed Y r h').2)
    | ⟨c, .bool false, h'⟩ => (c, h')
    | ⟨_, _, h'⟩ => (False, h')
omit [Gls] in
theorem feed_cons (Y : HSpec) (x : List V) (r : List (List V)) (h : Hp) : feed Y (x :: r) h = match Y.go x h with
    | ⟨c, .bool true, h'⟩ => (c ∧ (feed Y r h').1, (feed Y r h').2)
    | ⟨c, .bool false, h'⟩ => (c, h')
    | ⟨_, _, h'⟩ => (False, h') := rfl
omit [Gls] in
theorem feed_step {Y : HSpec} {x : List V} {r : List (List V)} {h : Hp} (hf : (feed Y (x :: r) h).1) : (Y.go x h).c ∧ ∃ b, (Y.go x h).v = .bool b ∧
    (b = true → (feed Y r (Y.go x h).h).1 ∧ (feed Y (x :: r) h).2 = (feed Y r (Y.go x h).h).2) ∧ (b = false → (feed Y (x :: r) h).2 = (Y.go x h).h) := by
  rw [feed_cons] at hf ⊢
  cases hy : Y.go x h with
  | mk c v h' =>
    rw [hy] at hf
    cases v with
    | bool b =>
      cases b with
      | true => exact ⟨hf.1, true, rfl, fun _ => ⟨hf.2, rfl⟩, fun e => by cases e⟩
      | false => exact ⟨hf, false, rfl, (fun e => by cases e), fun _ => rfl⟩
    | _ => exact hf.elim

/-- An iterator's contract: what it yields. own: the sites of what it makes itself; ro: those that it reads. -/
def itS (own ro : List Nat) (dec : List V → Hp → Prop × List (List V)) (l : Nat) (Y : HSpec) : HSpec where
  go args h := match args with
    | .yld l' :: caps => ⟨l' = l ∧ Loc Y own ro ∧ (∀ k ∈ own, h k = { base := (h k).base, blks := [] }) ∧ (dec caps h).1 ∧ (feed Y (dec caps h).2 h).1, .tup [], hps (own.map fun k => (k, { base := (h k).base + 1000000, blks := [] })) (feed Y (dec caps h).2 h).2⟩
    | _ => ⟨False, .top, h⟩

theorem its_inv {own ro : List Nat} {dec : List V → Hp → Prop × List (List V)} {l : Nat} {Y : HSpec} {args : List V} {h : Hp} (hc : ((itS own ro dec l Y).go args h).c) : ∃ caps, args = .yld l :: caps ∧ Loc Y own ro ∧ (∀ k ∈ own, h k = { base := (h k).base, blks := [] }) ∧ (dec caps h).1 ∧ (feed Y (dec caps h).2 h).1 ∧
    ((itS own ro dec l Y).go args h).v = .tup [] ∧ ((itS own ro dec l Y).go args h).h = hps (own.map fun k => (k, { base := (h k).base + 1000000, blks := [] })) (feed Y (dec caps h).2 h).2 := by
  match args, hc with
  | .yld l' :: caps, hc =>
    obtain ⟨rfl, h2, h3, h4, h5⟩ := hc
    exact ⟨caps, rfl, h2, h3, h4, h5, rfl, rfl⟩

section
variable {σ : Type} (LC : σ → List (Nat × Site)) (keys : List Nat) (pre : σ → List V → Prop) (go : σ → List V → Bool) (nxt : σ → List V → σ)
/-- The heap holds, at the caller's sites, what s says. -/
def Mt (s : σ) (h : Hp) : Prop := ∀ k ∈ keys, h k = hps (LC s) noH k
open Classical in
/-- A loop's rounds: over the caller's own state. -/
noncomputable def mkY : HSpec where
  go args h := if hs : ∃ s, Mt LC keys s h then ⟨((h YS).blks = [] ∧ (h YS).fl = false) ∧ pre hs.choose args, .bool (go hs.choose args), hfl (hps (LC (nxt hs.choose args)) h) (!go hs.choose args)⟩ else ⟨False, .top, h⟩
def runS : σ → List (List V) → Prop × Bool × σ
  | s, [] => (True, true, s)
  | s, x :: r => match go s x with
    | true => (pre s x ∧ (runS (nxt s x) r).1, (runS (nxt s x) r).2)
    | false => (pre s x, false, nxt s x)
variable {LC keys pre go nxt}
variable (inj : ∀ s s', (∀ k ∈ keys, hps (LC s) noH k = hps (LC s') noH k) → s = s')
include inj
omit [Gls] in
theorem mkY_go {s : σ} {h : Hp} (hm : Mt LC keys s h) (x : List V) : (mkY LC keys pre go nxt).go x h = ⟨((h YS).blks = [] ∧ (h YS).fl = false) ∧ pre s x, .bool (go s x), hfl (hps (LC (nxt s x)) h) (!go s x)⟩ := by
  have hs : ∃ s, Mt LC keys s h := ⟨s, hm⟩
  have e : hs.choose = s := inj _ _ fun k hk => (hs.choose_spec k hk).symm.trans (hm k hk)
  simp only [mkY, dif_pos hs, e]
omit [Gls] in
theorem mkY_c {x : List V} {h : Hp} (hc : ((mkY LC keys pre go nxt).go x h).c) : ∃ s, Mt LC keys s h ∧ ((h YS).blks = [] ∧ (h YS).fl = false) ∧ pre s x := by
  by_cases hs : ∃ s, Mt LC keys s h
  · obtain ⟨s, hm⟩ := hs
    rw [mkY_go inj hm] at hc
    exact ⟨s, hm, hc⟩
  · simp only [mkY, dif_neg hs] at hc
omit [Gls] in
theorem mkY_loc (hkeys : ∀ s, (LC s).map (·.1) = keys) {own ro : List Nat} (hd : keys.all (fun k => !own.contains k && !ro.contains k && !(k == YS)) = true) (ho : own.contains YS = false) (hr : ro.contains YS = false) : Loc (mkY LC keys pre go nxt) own ro := by
  have hd' : ∀ k ∈ keys, k ∉ own ∧ k ∉ ro ∧ k ≠ YS := fun k hk => by
    have := List.all_eq_true.1 hd k hk
    simp only [Bool.and_eq_true, Bool.not_eq_true', List.contains_eq_mem, decide_eq_false_iff_not, beq_eq_false_iff_ne] at this
    exact ⟨this.1.1, this.1.2, this.2⟩
  have hoy : YS ∉ own := by simpa [List.contains_eq_mem] using ho
  have hry : YS ∉ ro := by simpa [List.contains_eq_mem] using hr
  have hLy : ∀ s, YS ∉ (LC s).map (·.1) := fun s hm => by rw [hkeys] at hm; exact (hd' _ hm).2.2 rfl
  refine ⟨fun L hL x h hc => ?_, fun x h hc k hk => ?_, fun x h hc => ?_, fun x h hc => ?_⟩
  · obtain ⟨s, hm, hy, hp⟩ := mkY_c inj hc
    have hLn : ∀ k ∈ keys, k ∉ L.map (·.1) := fun k hk hm => (hd' k hk).1 (hL k hm)
    have hm' : Mt LC keys s (hps L h) := fun k hk => by rw [hps_not (hLn k hk)]; exact hm k hk
    have hyL : hps L h YS = h YS := hps_not fun hm => hoy (hL _ hm)
    rw [mkY_go inj hm, mkY_go inj hm']
    refine ⟨by rw [hyL]; exact ⟨hy, hp⟩, rfl, ?_⟩
    funext k
    dsimp only
    by_cases hk : k = YS
    · rw [hk]
      have hyn : YS ∉ L.map (·.1) := fun hm => hoy (hL _ hm)
      rw [hps_not hyn, hfl_ys, hfl_ys]
      simp only [hnext, hps_not (hLy _), hyL]
    · rw [hfl_ne _ _ hk]
      by_cases hkL : k ∈ L.map (·.1)
      · have : k ∉ (LC (nxt s x)).map (·.1) := by rw [hkeys]; exact fun hm => hLn k hm hkL
        rw [hps_not this]
        exact hps_mem hkL
      · rw [hps_not hkL, hfl_ne _ _ hk]
        by_cases hkC : k ∈ (LC (nxt s x)).map (·.1)
        · exact hps_mem hkC
        · rw [hps_not hkC, hps_not hkC, hps_not hkL]
  · obtain ⟨s, hm, hy, hp⟩ := mkY_c inj hc
    rw [mkY_go inj hm]
    have hky : k ≠ YS := fun e => hry (by rw [← e]; exact hk)
    dsimp only
    rw [hfl_ne _ _ hky, hps_not (by rw [hkeys]; exact fun hm => (hd' k hm).2.1 hk)]
  · obtain ⟨s, hm, hy, hp⟩ := mkY_c inj hc
    rw [mkY_go inj hm]
    exact ⟨_, rfl⟩
  · obtain ⟨s, hm, hy, hp⟩ := mkY_c inj hc
    refine ⟨hy, ?_⟩
    rw [mkY_go inj hm]
    intro hv
    simp only [V.bool.injEq] at hv
    simp only [hv, Bool.not_true]
    rw [hfl_self (by rw [hps_not (hLy _)]; exact hy.1) (by rw [hps_not (hLy _)]; exact hy.2), hps_not (hLy _)]
omit [Gls] in
theorem runS_feed (hkeys : ∀ s, (LC s).map (·.1) = keys) (hky : YS ∉ keys) : ∀ (xs : List (List V)) (s : σ) (h : Hp), Mt LC keys s h → (h YS).blks = [] → (h YS).fl = false → (runS pre go nxt s xs).1 →
    (feed (mkY LC keys pre go nxt) xs h).1 ∧ (feed (mkY LC keys pre go nxt) xs h).2 = hfl (hps (LC (runS pre go nxt s xs).2.2) h) (!(runS pre go nxt s xs).2.1)
  | [], s, h, hm, h1, h2, _ => by
    refine ⟨trivial, ?_⟩
    simp only [feed, runS, Bool.not_true]
    rw [hps_self (fun k hk => hm k (by rw [← hkeys s]; exact hk)), hfl_self h1 h2]
  | x :: r, s, h, hm, h1, h2, hr => by
    have hLy : ∀ s, YS ∉ (LC s).map (·.1) := fun s => by rw [hkeys]; exact hky
    rw [feed_cons, mkY_go inj hm]
    cases hg : go s x with
    | false =>
      simp only [runS, hg] at hr ⊢
      exact ⟨⟨⟨h1, h2⟩, hr⟩, by simp⟩
    | true =>
      simp only [runS, hg] at hr ⊢
      simp only [Bool.not_true]
      have e1 : hps (LC (nxt s x)) h YS = h YS := hps_not (hLy _)
      rw [hfl_self (by rw [e1]; exact h1) (by rw [e1]; exact h2)]
      have hm' : Mt LC keys (nxt s x) (hps (LC (nxt s x)) h) := fun k hk => hps_mem (by rw [hkeys]; exact hk)
      obtain ⟨g1, g2⟩ := runS_feed hkeys hky r (nxt s x) (hps (LC (nxt s x)) h) hm' (by rw [e1]; exact h1) (by rw [e1]; exact h2) hr.2
      refine ⟨⟨⟨⟨h1, h2⟩, hr.1⟩, g1⟩, ?_⟩
      rw [g2]
      congr 1
      funext k
      by_cases hk : k ∈ keys
      · exact hps_mem (by rw [hkeys]; exact hk)
      · rw [hps_not (by rw [hkeys]; exact hk), hps_not (by rw [hkeys]; exact hk), hps_not (by rw [hkeys]; exact hk)]
/-- **The rule for loops over functions.** -/
theorem awp_range (hkeys : ∀ s, (LC s).map (·.1) = keys) {E : Env} {ok : Alts} {g : Operand} {ps : Array Tmp} {assign body : Code} {t : Nat → Bool × V} {h : Hp} {Q : Ex → St → Prop}
    (s0 : σ) (e0 : Ex) {own ro : List Nat} {dec : List V → Hp → Prop × List (List V)} {it : Nat} {caps : List V} (xs : List (List V))
    (h1 : ev { t := t, h := h } g = (true, .fn it caps)) (h2 : E.fn it = some (.iter (itS own ro dec))) (hps' : (ps.toList.all fun p => decide (p < E.nt)) = true)
    (hd : keys.all (fun k => !own.contains k && !ro.contains k && !(k == YS)) = true) (ho : own.contains YS = false) (hr : ro.contains YS = false)
    (hys : (h YS).blks = [] ∧ (h YS).fl = false) (hm : Mt LC keys s0 h) (hfr : ∀ k ∈ own, h k = { base := (h k).base, blks := [] }) (hdec : (dec caps h).1 ∧ (dec caps h).2 = xs)
    (hrun : (runS pre go nxt s0 xs).1)
    (hround : ∀ s x hb, pre s x → (hb YS).blks = [] → (hb YS).fl = false → x.length = ps.size ∧ awp E ok assign { t := setT t ps.toList x, h := hps (LC s) hb } fun e st1 => match e with
        | .normal => awp E ok body st1 fun e st2 => match e with
          | .normal => go s x = true ∧ HLe st2.h (hps (LC (nxt s x)) hb)
          | .ret => e0 = .ret ∧ go s x = false ∧ HLe st2.h (hps (LC (nxt s x)) hb)
          | .exit id => e0 = .exit id ∧ go s x = false ∧ HLe st2.h (hps (LC (nxt s x)) hb)
        | _ => False)
    (hQ1 : (runS pre go nxt s0 xs).2.1 = true → Q .normal { t := t, h := hps (own.map fun k => (k, { base := (h k).base + 1000000, blks := [] })) (hps (LC (runS pre go nxt s0 xs).2.2) h) })
    (hQ2 : (runS pre go nxt s0 xs).2.1 = false → e0 ≠ .normal ∧ Q e0 { t := t, h := hps (own.map fun k => (k, { base := (h k).base + 1000000, blks := [] })) (hps (LC (runS pre go nxt s0 xs).2.2) h) })
    (hyl : E.yl = none := by rfl) : awp E ok (.rangeFunc g ps assign body) { t := t, h := h } Q := by
  have hd' : ∀ k ∈ keys, k ∉ own ∧ k ∉ ro ∧ k ≠ YS := fun k hk => by
    have := List.all_eq_true.1 hd k hk
    simp only [Bool.and_eq_true, Bool.not_eq_true', List.contains_eq_mem, decide_eq_false_iff_not, beq_eq_false_iff_ne] at this
    exact ⟨this.1.1, this.1.2, this.2⟩
  have hky : YS ∉ keys := fun hm => (hd' _ hm).2.2 rfl
  have hoy : YS ∉ own := by simpa [List.contains_eq_mem] using ho
  have hLy : ∀ s, YS ∉ (LC s).map (·.1) := fun s => by rw [hkeys]; exact hky
  have hflm : ∀ (a b : Hp) (x : Bool), HLe a b → HLe (hfl a x) (hfl b x) := by
    intro a b x hab
    refine ⟨⟨fun s i B hg => ?_, fun s => ?_⟩, ?_⟩
    · rw [hget_hfl] at hg ⊢
      split at hg
      · cases hg
      · rename_i hne; rw [if_neg hne]; exact hab.1.1 s i B hg
    · rw [hnext_hfl, hnext_hfl]; exact hab.1.2 s
    · simp only [hfl, if_true]
      simp only [hnext, hab.2]
  simp only [awp]
  refine ⟨hyl, it, caps, itS own ro dec, mkY LC keys pre go nxt, e0, ⟨⟨h1, h2⟩, hps'⟩, fun x hb hc => ?_, fun l => ?_⟩
  · obtain ⟨s, hm, hy, hp⟩ := mkY_c inj hc
    obtain ⟨r1, r2⟩ := hround s x hb hp hy.1 hy.2
    refine ⟨hy, r1, ?_⟩
    have he : hps (LC s) hb = hb := hps_self fun k hk => hm k (by rw [← hkeys s]; exact hk)
    rw [he] at r2
    rw [mkY_go inj hm]
    refine awp_mono assign _ _ _ (fun e st1 hh => ?_) r2
    cases e with
    | normal =>
      refine awp_mono body _ _ _ (fun e st2 hh => ?_) hh
      cases e with
      | normal => exact ⟨by rw [hh.1], by rw [hh.1]; exact hflm _ _ _ hh.2⟩
      | ret => exact ⟨hh.1, by rw [hh.2.1], by rw [hh.2.1]; exact hflm _ _ _ hh.2.2⟩
      | exit id => exact ⟨hh.1, by rw [hh.2.1], by rw [hh.2.1]; exact hflm _ _ _ hh.2.2⟩
    | _ => exact hh.elim
  · rw [hfl_self hys.1 hys.2]
    obtain ⟨f1, f2⟩ := runS_feed inj hkeys hky xs s0 h hm hys.1 hys.2 hrun
    have hloc := mkY_loc (pre := pre) (go := go) (nxt := nxt) inj hkeys hd ho hr
    have hgo : (itS own ro dec l (mkY LC keys pre go nxt)).go (.yld l :: caps) h = ⟨l = l ∧ Loc (mkY LC keys pre go nxt) own ro ∧ (∀ k ∈ own, h k = { base := (h k).base, blks := [] }) ∧ (dec caps h).1 ∧ (feed (mkY LC keys pre go nxt) (dec caps h).2 h).1, .tup [], hps (own.map fun k => (k, { base := (h k).base + 1000000, blks := [] })) (feed (mkY LC keys pre go nxt) (dec caps h).2 h).2⟩ := rfl
    rw [hgo, hdec.2]
    refine ⟨⟨rfl, hloc, hfr, hdec.1, f1⟩, ?_⟩
    simp only [f2]
    have hoL : YS ∉ (own.map fun k => (k, ({ base := (h k).base + 1000000, blks := [] } : Site))).map (·.1) := by
      rw [List.map_map]
      intro hm
      obtain ⟨a, ha, e⟩ := List.mem_map.1 hm
      exact hoy (e ▸ ha)
    have hflg : ∀ b, (hps (own.map fun k => (k, ({ base := (h k).base + 1000000, blks := [] } : Site))) (hfl (hps (LC (runS pre go nxt s0 xs).2.2) h) b) YS).fl = b := fun b => by
      rw [hps_not hoL]; simp [hfl]
    have hfin : ∀ b, hfl (hps (own.map fun k => (k, ({ base := (h k).base + 1000000, blks := [] } : Site))) (hfl (hps (LC (runS pre go nxt s0 xs).2.2) h) b)) false = hps (own.map fun k => (k, ({ base := (h k).base + 1000000, blks := [] } : Site))) (hps (LC (runS pre go nxt s0 xs).2.2) h) := by
      intro b
      funext k
      by_cases hk : k = YS
      · rw [hk]
        have e1 : hps (LC (runS pre go nxt s0 xs).2.2) h YS = h YS := hps_not (hLy _)
        rw [hps_not hoL, e1, hfl_ys]
        simp only [hnext, hps_not hoL, hfl_ys, e1]
        cases hh : h YS with
        | mk base blks fl => rw [hh] at hys; obtain ⟨a, b⟩ := hys; simp only at a b; subst a b; simp
      · rw [hfl_ne _ _ hk]
        by_cases hkL : k ∈ (own.map fun k => (k, ({ base := (h k).base + 1000000, blks := [] } : Site))).map (·.1)
        · exact hps_mem hkL
        · rw [hps_not hkL, hps_not hkL, hfl_ne _ _ hk]
    rw [hflg, hfin]
    refine ⟨fun hb => hQ1 (by simpa using hb), fun hb => hQ2 (by simpa using hb)⟩
end
end Go.Sx
end
section
/- Contracts of functions that work on an object in the heap: its sites hold a state, all others are left to the caller. No conditions. -/
set_option linter.unusedSimpArgs false
namespace Go.Sx
variable [Gls]
section
variable {σ : Type} {LC : σ → List (Nat × Site)} {keys : List Nat}
/-- A heap whose object is in state s. -/
def Ob (LC : σ → List (Nat × Site)) (s : σ) (h : Hp) : Hp := hps (LC s) h
omit [Gls] in
theorem ob_ne (hk : ∀ s, (LC s).map (·.1) = keys) {s : σ} {h : Hp} {k : Nat} (hn : keys.contains k = false) : Ob LC s h k = h k :=
  hps_not (by rw [hk]; simpa [List.contains_eq_mem] using hn)
omit [Gls] in
theorem ob_ob (hk : ∀ s, (LC s).map (·.1) = keys) (s s' : σ) (h : Hp) : Ob LC s (Ob LC s' h) = Ob LC s h := by
  funext k
  by_cases hn : k ∈ keys
  · exact hps_mem (by rw [hk]; exact hn)
  · have hn' : keys.contains k = false := by simpa [List.contains_eq_mem] using hn
    rw [ob_ne hk hn', ob_ne hk hn', ob_ne hk hn']
omit [Gls] in
theorem ob_over (hk : ∀ s, (LC s).map (·.1) = keys) {s : σ} {h : Hp} {L : List (Nat × Site)} (hn : (L.all fun p => !keys.contains p.1) = true) : hps L (Ob LC s h) = Ob LC s (hps L h) := by
  funext k
  by_cases hm : k ∈ L.map (·.1)
  · have hnk : keys.contains k = false := by
      obtain ⟨p, hp, rfl⟩ := List.mem_map.1 hm
      simpa using List.all_eq_true.1 hn p hp
    rw [ob_ne hk hnk]; exact hps_mem hm
  · rw [hps_not hm]
    by_cases hnk : k ∈ keys
    · exact hps_mem (by rw [hk]; exact hnk)
    · have hn' : keys.contains k = false := by simpa [List.contains_eq_mem] using hnk
      rw [ob_ne hk hn', ob_ne hk hn', hps_not hm]
omit [Gls] in
theorem ob_hget (s : σ) (h : Hp) (k i : Nat) : hget (Ob LC s h) k i = if i < (Ob LC s h k).base then none else (Ob LC s h k).blks[i - (Ob LC s h k).base]? := rfl
omit [Gls] in
theorem ob_hnext (s : σ) (h : Hp) (k : Nat) : hnext (Ob LC s h) k = (Ob LC s h k).base + (Ob LC s h k).blks.length := rfl
omit [Gls] in
theorem ob_hpush (hk : ∀ s, (LC s).map (·.1) = keys) {s : σ} {h : Hp} {k : Nat} (hn : keys.contains k = false) (B : Blk) : hpush (Ob LC s h) k B = Ob LC s (hpush h k B) := by
  funext j
  by_cases hj : j ∈ keys
  · have hne : j ≠ k := by rintro rfl; simp [List.contains_eq_mem, hj] at hn
    simp only [hpush, hne, if_false]
    exact hps_mem (by rw [hk]; exact hj)
  · have hj' : keys.contains j = false := by simpa [List.contains_eq_mem] using hj
    rw [ob_ne hk hj']
    simp only [hpush, ob_ne hk hn, ob_ne hk hj']
omit [Gls] in
theorem ob_hset (hk : ∀ s, (LC s).map (·.1) = keys) {s : σ} {h : Hp} {k i : Nat} (hn : keys.contains k = false) (B : Blk) : hset (Ob LC s h) k i B = Ob LC s (hset h k i B) := by
  funext j
  by_cases hj : j ∈ keys
  · have hne : j ≠ k := by rintro rfl; simp [List.contains_eq_mem, hj] at hn
    simp only [hset, hne, if_false]
    exact hps_mem (by rw [hk]; exact hj)
  · have hj' : keys.contains j = false := by simpa [List.contains_eq_mem] using hj
    rw [ob_ne hk hj']
    simp only [hset, ob_ne hk hn, ob_ne hk hj']
omit [Gls] in
theorem ob_hcut (hk : ∀ s, (LC s).map (·.1) = keys) {s : σ} {h : Hp} {k i : Nat} (hn : keys.contains k = false) : hcut (Ob LC s h) k i = Ob LC s (hcut h k i) := by
  funext j
  by_cases hj : j ∈ keys
  · have hne : j ≠ k := by rintro rfl; simp [List.contains_eq_mem, hj] at hn
    simp only [hcut, hne, if_false]
    exact hps_mem (by rw [hk]; exact hj)
  · have hj' : keys.contains j = false := by simpa [List.contains_eq_mem] using hj
    rw [ob_ne hk hj']
    simp only [hcut, ob_ne hk hn, ob_ne hk hj']
/-- A block of the object is written. -/
theorem ob_write {s s' : σ} {h : Hp} {k i : Nat} {B : Blk} (hk : ∀ s, (LC s).map (·.1) = keys) (hm : keys.contains k = true) (ho : ∀ j ∈ keys, j ≠ k → Ob LC s' h j = Ob LC s h j)
    (hw : Ob LC s' h k = { Ob LC s h k with blks := (Ob LC s h k).blks.set (i - (Ob LC s h k).base) B }) : hset (Ob LC s h) k i B = Ob LC s' h := by
  funext j
  by_cases hj : j = k
  · subst hj; simp only [hset, if_true]; exact hw.symm
  · simp only [hset, hj, if_false]
    by_cases hjk : j ∈ keys
    · exact (ho j hjk hj).symm
    · have hj' : keys.contains j = false := by simpa [List.contains_eq_mem] using hjk
      rw [ob_ne hk hj', ob_ne hk hj']
omit [Gls] in
theorem ob_mt {s : σ} {h : Hp} (hk : ∀ s, (LC s).map (·.1) = keys) : Mt LC keys s h ↔ h = Ob LC s h := by
  constructor
  · intro hm
    exact (hps_self fun k hkk => hm k (by rw [← hk s]; exact hkk)).symm
  · intro he k hkk
    have : h k = Ob LC s h k := congrFun he k
    rw [this]
    exact hps_mem (by rw [hk]; exact hkk)
omit [Gls] in
theorem ob_mt' {s : σ} {h : Hp} (hk : ∀ s, (LC s).map (·.1) = keys) : Mt LC keys s (Ob LC s h) := (ob_mt hk).2 (ob_ob hk s s h).symm
/-- Nothing less is told of the other sites. -/
theorem ob_hle {s : σ} {L L' : List (Nat × Site)} {H : Hp} (h : allK (fun k => sLe (hps L H k) (hps L' H k)) (L.map (·.1) ++ L'.map (·.1))) (hy : (L.map (·.1) ++ L'.map (·.1)).contains 999999999 = false := by first | rfl | simp) : HLe (Ob LC s (hps L H)) (Ob LC s (hps L' H)) := by
  have hb := hle_hpsb (H := H) h hy
  have hns : YS ∉ L.map (·.1) ++ L'.map (·.1) := by
    intro hm
    have : (L.map (·.1) ++ L'.map (·.1)).contains 999999999 = true := by simpa [List.contains_eq_mem] using hm
    rw [hy] at this; cases this
  refine .sites (fun k => ?_) ?_
  · by_cases hm : k ∈ (LC s).map (·.1)
    · have : Ob LC s (hps L' H) k = Ob LC s (hps L H) k := hps_mem hm
      rw [this]; exact .same rfl rfl
    · have e1 : Ob LC s (hps L' H) k = hps L' H k := hps_not hm
      have e2 : Ob LC s (hps L H) k = hps L H k := hps_not hm
      rw [e1, e2]
      by_cases hs : k ∈ L.map (·.1) ++ L'.map (·.1)
      · exact allK_mem h k hs
      · rw [List.mem_append, not_or] at hs
        rw [hps_not hs.1, hps_not hs.2]
        exact .same rfl rfl
  · by_cases hm : YS ∈ (LC s).map (·.1)
    · exact hps_mem hm
    · have e1 : Ob LC s (hps L' H) YS = hps L' H YS := hps_not hm
      have e2 : Ob LC s (hps L H) YS = hps L H YS := hps_not hm
      rw [e1, e2]
      exact hb.2
section
variable {D : Type}
open Classical in
/-- A contract of a function that works on the object. -/
noncomputable def obS (LC : σ → List (Nat × Site)) (keys : List Nat) (enc : σ → D → List V) (pre : σ → D → Hp → Prop) (res : σ → D → Hp → V) (nxt : σ → D → σ) (fin : σ → D → Hp → Hp) : HSpec where
  go args h := if x : ∃ p : σ × D, Mt LC keys p.1 h ∧ args = enc p.1 p.2 then ⟨pre x.choose.1 x.choose.2 h, res x.choose.1 x.choose.2 h, Ob LC (nxt x.choose.1 x.choose.2) (fin x.choose.1 x.choose.2 h)⟩ else bad h
variable {enc : σ → D → List V} {pre : σ → D → Hp → Prop} {res : σ → D → Hp → V} {nxt : σ → D → σ} {fin : σ → D → Hp → Hp}
omit [Gls] in
theorem obS_go (hk : ∀ s, (LC s).map (·.1) = keys) (inj : ∀ s s', (∀ k ∈ keys, hps (LC s) noH k = hps (LC s') noH k) → s = s') (ein : ∀ s d d', enc s d = enc s d' → d = d') (s : σ) (d : D) (h : Hp) :
    (obS LC keys enc pre res nxt fin).go (enc s d) (Ob LC s h) = ⟨pre s d (Ob LC s h), res s d (Ob LC s h), Ob LC (nxt s d) (fin s d (Ob LC s h))⟩ := by
  have x : ∃ p : σ × D, Mt LC keys p.1 (Ob LC s h) ∧ enc s d = enc p.1 p.2 := ⟨(s, d), ob_mt' hk, rfl⟩
  have e1 : x.choose.1 = s := inj _ _ fun k hkk => ((x.choose_spec.1 k hkk).symm.trans (ob_mt' (h := h) hk k hkk))
  have e2 : x.choose.2 = d := ein s _ _ (by have := x.choose_spec.2; rw [e1] at this; exact this.symm)
  simp only [obS, dif_pos x, e1, e2]
omit [Gls] in
theorem obS_inv (hk : ∀ s, (LC s).map (·.1) = keys) {args : List V} {h : Hp} (hc : ((obS LC keys enc pre res nxt fin).go args h).c) :
    ∃ s d, h = Ob LC s h ∧ args = enc s d ∧ pre s d h ∧ (obS LC keys enc pre res nxt fin).go args h = ⟨pre s d h, res s d h, Ob LC (nxt s d) (fin s d h)⟩ := by
  by_cases x : ∃ p : σ × D, Mt LC keys p.1 h ∧ args = enc p.1 p.2
  · simp only [obS, dif_pos x] at hc ⊢
    exact ⟨x.choose.1, x.choose.2, (ob_mt hk).1 x.choose_spec.1, x.choose_spec.2, hc, rfl⟩
  · simp only [obS, dif_neg x] at hc
    exact hc.elim
end
end
/-- These sites hold nothing. -/
def Blank (own : List Nat) (h : Hp) : Prop := ∀ k ∈ own, h k = { base := (h k).base, blks := [] }
/-- What was made at these sites is forgotten. -/
def bmp (own : List Nat) (n : Nat) (h : Hp) : Hp := hps (own.map fun k => (k, { base := (h k).base + n, blks := [] })) h
omit [Gls] in
theorem Blank.self {own : List Nat} {h : Hp} (hb : Blank own h) : h = hps (own.map fun k => (k, { base := (h k).base, blks := [] })) h := by
  refine (hps_self fun k hk => ?_).symm
  have hk' : k ∈ own := by simpa [List.map_map, Function.comp_def] using hk
  rw [hb k hk']
  clear hk
  induction own with
  | nil => cases hk'
  | cons a r ih =>
    simp only [List.map_cons, hps]
    by_cases e : k = a
    · subst e; rw [if_pos rfl]
    · rw [if_neg e]
      rcases List.mem_cons.1 hk' with h | h
      · exact absurd h e
      · exact ih (fun j hj => hb j (by simp [hj])) h
end Go.Sx
end
section
/- Plain: the first place in a list that is so. No conditions. -/
namespace Go.Sx
section
variable {α : Type}
def idxZ (l : List α) (p : α → Bool) : Int := match l.findIdx? p with | some i => i | none => -1
theorem idxZ_at (l : List α) (p : α → Bool) {k : Nat} (hk : k < l.length) (hp : p l[k] = true) (h : ∀ j (hj : j < l.length), j < k → p l[j] = false) : idxZ l p = k := by
  have : l.findIdx? p = some k := by
    rw [List.findIdx?_eq_some_iff_getElem]
    exact ⟨hk, hp, fun j hj => by simp [h j (by omega) hj]⟩
  simp [idxZ, this]
theorem idxZ_none (l : List α) (p : α → Bool) (h : ∀ j (hj : j < l.length), p l[j] = false) : idxZ l p = -1 := by
  have : l.findIdx? p = none := by
    rw [List.findIdx?_eq_none_iff]
    intro x hx
    obtain ⟨j, hj, rfl⟩ := List.getElem_of_mem hx
    exact h j hj
  simp [idxZ, this]
theorem idxZ_some {l : List α} {p : α → Bool} (h : idxZ l p ≠ -1) : ∃ (k : Nat) (hk : k < l.length), idxZ l p = k ∧ p l[k] = true ∧ ∀ j (hj : j < l.length), j < k → p l[j] = false := by
  unfold idxZ at h ⊢
  cases hf : l.findIdx? p with
  | none => rw [hf] at h; exact absurd rfl h
  | some i =>
    rw [List.findIdx?_eq_some_iff_getElem] at hf
    obtain ⟨h1, h2, h3⟩ := hf
    exact ⟨i, h1, rfl, h2, fun j hj hji => by simpa using h3 j hji⟩
theorem get_of {l : List α} {k : Nat} {x : α} (h : l[k]? = some x) (hk : k < l.length) : l[k] = x := by
  rw [List.getElem?_eq_getElem hk] at h; exact Option.some.inj h
theorem idxZ_any (l : List α) (p : α → Bool) : decide (0 ≤ idxZ l p) = l.any p := by
  unfold idxZ
  cases h : l.findIdx? p with
  | none => rw [List.findIdx?_eq_none_iff] at h; simp; exact fun x hx => by simpa using h x hx
  | some i =>
    have : l.any p = true := by
      rw [List.findIdx?_eq_some_iff_getElem] at h
      obtain ⟨h1, h2, _⟩ := h
      exact List.any_eq_true.2 ⟨_, List.getElem_mem h1, h2⟩
    simp [this]
end
end Go.Sx
end
