/- From the walks to the contracts of functions; tables. No conditions. -/
import Derived.Test.YtbdphjgpjhlpmaaSxU
set_option linter.unusedSimpArgs false
set_option linter.unusedVariables false
namespace Go.Sx
open Go.RowKit

def tbl (l : List (Nat × Spec)) (f : Nat) : Option Spec := (l.find? fun p => p.1 == f).map (·.2)
@[simp] theorem tbl_nil (f : Nat) : tbl [] f = none := rfl
@[simp] theorem tbl_cons (g : Nat) (S : Spec) (l : List (Nat × Spec)) (f : Nat) : tbl ((g, S) :: l) f = if g = f then some S else tbl l f := by
  simp only [tbl, List.find?_cons]
  by_cases h : g = f
  · subst h; simp
  · have : (g == f) = false := by simpa using h
    simp [this, h]

def LOK (P : Program) (l : List (Nat × Spec)) : Prop := ∀ p ∈ l, FnOK P p.1 p.2
theorem LOK.nil {P : Program} : LOK P [] := fun p h => by cases h
theorem LOK.cons {P : Program} {f : Nat} {S : Spec} {l : List (Nat × Spec)} (h : FnOK P f S) (k : LOK P l) : LOK P ((f, S) :: l) := by
  intro p hp
  rcases List.mem_cons.1 hp with rfl | hp
  · exact h
  · exact k p hp
theorem LOK.tbl {E : Env} {l : List (Nat × Spec)} (hE : E.fn = tbl l) (h : LOK E.P l) : TblOK E := by
  intro f S hf
  rw [hE] at hf
  unfold Sx.tbl at hf
  cases hx : l.find? fun p => p.1 == f with
  | none => simp [hx] at hf
  | some p =>
    simp [hx] at hf
    subst hf
    have h1 := h p (List.mem_of_find?_eq_some hx)
    have h2 := List.find?_some hx
    simp only [beq_iff_eq] at h2
    rw [← h2]; exact h1

theorem run_call {P : Program} {f : FuncId} {fn : Func} {c : Code} (hf : P.funcs[f]? = some fn) (hn : (fn.name == "runtime.NumGoroutine") = false) (hb : fn.body = some c) (args : Array Value) (w : World) : (callFunc f args).run P w = .ok (.enter f args) w := by
  unfold callFunc
  simp only [Sem.run_bind, run_program, Result.andThen_ok, hf, hn, hb, Option.isNone_some, Bool.false_eq_true, if_false, Sem.run_pure]

theorem pure_fn {E : Env} {l : List (Nat × Spec)} (hE : E.fn = tbl l) (hl : LOK E.P l) {ok : Alts} {f : FuncId} {fn : Func} {S : PSpec} (hf : E.P.funcs[f]? = some fn) (hn : (fn.name == "runtime.NumGoroutine") = false) (hbs : fn.body.isSome = true) (hok : drawsOk E ok (fn.body.getD .skip) = true) (hnt : fn.ntmps = E.nt) (hlen : ∀ d, S.pre d → (S.enc d).length ≤ E.nt)
    (h : PureBody E ok fn S) : FnOK E.P f (.pure S) := by
  obtain ⟨c, hc⟩ := Option.isSome_iff_exists.1 hbs
  rw [hc] at hok
  exact { call := run_call hf hn hc, pure := fun S' hS => (by cases hS; exact pure_ok (hl.tbl hE) hf hc hok hnt hlen h), heap := fun S' hS => (by cases hS) }

theorem heap_fn {E : Env} {l : List (Nat × Spec)} (hE : E.fn = tbl l) (hl : LOK E.P l) {ok : Alts} {f : FuncId} {fn : Func} {S : HSpec} (hf : E.P.funcs[f]? = some fn) (hn : (fn.name == "runtime.NumGoroutine") = false) (hbs : fn.body.isSome = true) (hok : drawsOk E ok (fn.body.getD .skip) = true) (hnt : fn.ntmps = E.nt) (hlen : ∀ args h, (S.go args h).c → args.length ≤ E.nt)
    (h : HeapBody E ok fn S) : FnOK E.P f (.heap S) := by
  obtain ⟨c, hc⟩ := Option.isSome_iff_exists.1 hbs
  rw [hc] at hok
  exact { call := run_call hf hn hc, pure := fun S' hS => (by cases hS), heap := fun S' hS => (by cases hS; exact heap_ok (hl.tbl hE) hf hc hok hnt hlen h) }

/-- A pointer into one immutable row. -/
def V.peek : V → V
  | .ip _ els e j => (els.getD e []).getD j .top
  | _ => .top
def V.caps : V → List V
  | .fn _ cs => cs
  | _ => []
def V.cs : V → List V
  | .agg cs => cs
  | _ => []
theorem rowInt_ri : rowInt ∘ ri = id := by funext n; rfl
@[simp] theorem map_rowInt (l : List Int) : (l.map ri).map rowInt = l := by rw [List.map_map, rowInt_ri, List.map_id]
@[simp] theorem map_rowInt' (l : List Int) : l.map (rowInt ∘ ri) = l := by rw [rowInt_ri, List.map_id]
attribute [simp] V.peek V.caps V.cs V.toInt V.toBool V.toInts V.rows rowInt rawV rawsV rawR
theorem ri_eq (n : Int) : ri n = [.int .i64 n] := rfl
end Go.Sx
