/- The abstract weakest precondition of code. No conditions. -/
import Derived.Test.YtbdphjgpjhlpmaaSxB
set_option linter.unusedSimpArgs false
set_option linter.unusedVariables false
namespace Go.Sx
open Go.RowKit

inductive Ex where
  | normal
  | exit (id : Nat)
  | ret

/-- The heap h' says no more than h. -/
def HLe (h h' : Hp) : Prop := (∀ s i B, hget h' s i = some B → hget h s i = some B) ∧ ∀ s, hnext h s ≤ hnext h' s

def TLe (t t' : Nat → Bool × V) : Prop := ∀ k, t' k = (true, .top) ∨ t' k = t k ∨ ∃ x, t k = (true, x) ∧ ∃ y, t' k = (true, y) ∧ sub x y

structure StLe (st st' : St) : Prop where
  t : TLe st.t st'.t
  h : HLe st.h st'.h

/-- A nil slice as an owned one without elements. -/
inductive Gh : St → St → Prop
  | refl (st : St) : Gh st st
  | nil (st st' : St) (k key z : Nat) (ty : TypeId) (hk : st.t k = (true, .nil)) (hz : 0 < z) (h : Gh { t := upd st.t (some k) (true, .bsl key (hnext st.h key) 0), h := hpush st.h key { z := z, els := [], ty := ty } } st') : Gh st st'

/-- What the operation does is the same on every heap, and it leaves the heap. -/
def FreeAt (E : Env) (o : Oper) (st : St) : Prop := ∀ h h', sem E (o.dst.getD 0) o.op (ev2 st) h' = { sem E (o.dst.getD 0) o.op (ev2 st) h with h := h' }

/-- A load of a block that is not written any more. -/
def FzOk (o : Oper) (st : St) : Prop := match o.op with
  | .load _ a => match ev2 st a with
    | .bptr s i _ _ _ => match hget st.h s i with
      | some B => B.fz = true
      | none => False
    | _ => False
  | _ => False

/-- Regions for which more is told: the region's number; the operations that are to be free of the heap; the orders that are walked. -/
abbrev Alts := List (Nat × (List Nat × List (List Nat)))

def runI (E : Env) (ops : List Oper) (fr : List Nat) : List Nat → St → Prop × St
  | [], st => (True, st)
  | i :: l, st => match ops[i]? with
    | none => runI E ops fr l st
    | some o => ((((fr.contains i = true → FreeAt E o st) ∧ (fr.contains (i + 1000) = true → FzOk o st)) ∧ (step E ops o st).1) ∧ (runI E ops fr l (step E ops o st).2).1, (runI E ops fr l (step E ops o st).2).2)

def runs (E : Env) (ops : List Oper) (fr : List Nat) : List (List Nat) → St → (St → Prop) → Prop
  | [], _, _ => True
  | l :: r, st, K => ((runI E ops fr l st).1 ∧ K (runI E ops fr l st).2) ∧ runs E ops fr r st K

def lkf : List (Nat × List Nat) → Nat → List Nat
  | [], _ => []
  | (a, p) :: r, id => if id = a then p else lkf r id

/-- Blocks that are not written any more: the slots are pointers into them, or slices of them. -/
def frz1 (h : Hp) : V → Prop × Hp
  | .bptr s i _ _ _ | .bsl s i _ => match hget h s i with
    | some B => (True, hset h s i { B with fz := true })
    | none => (False, h)
  | _ => (False, h)
/-- All blocks of a site. -/
def frzH (h : Hp) (s s' : Nat) : Site := if s' = s then { base := (h s).base, blks := (h s).blks.map fun B => { B with fz := true } } else h s'
/-- A slot's value, as an immutable one: what it refers to is not written any more. -/
def frzP (k : Nat) (st : St) : Prop × St := (((st.t k).2.leaf = true ∧ (lend1 st.h (st.t k).2).1) ∧ fzN 3 st.h (st.t k).2, { t := upd st.t (some k) ((st.t k).1, (lend1 st.h (st.t k).2).2), h := st.h })
def frzK (k : Nat) (st : St) : Prop × St := if 100000 ≤ k then (True, { t := st.t, h := frzH st.h (k - 100000) }) else if 50000 ≤ k then frzP (k - 50000) st else match frz1 st.h (st.t k).2 with
  | (c, h') => (c, { t := st.t, h := h' })
def frzs : List Nat → St → Prop × St
  | [], st => (True, st)
  | k :: r, st => match frzK k st with
    | (c, st') => match frzs r st' with
      | (c', st'') => (c ∧ c', st'')

def awp (E : Env) (ok : Alts) : Code → St → (Ex → St → Prop) → Prop
  | .skip, st, Q => Q .normal st
  | .region id ops draw, st, Q => match frzs (lkf E.frz id) st with
    | (c0, st) => c0 ∧ match draw, ok.lookup id with
      | true, some (fr, cs) => runs E ops.toList fr cs st fun st' => Q .normal st'
      | _, _ => match runL E ops.toList ops.toList st with
        | (c, st') => c ∧ Q .normal st'
  | .seq a b, st, Q => awp E ok a st fun e st' => match e with
    | .normal => awp E ok b st' Q
    | e => Q e st'
  | .cond c x y, st, Q => match ev st c with
    | (g, .bool b) => g = true ∧ (b = true → awp E ok x st Q) ∧ (b = false → awp E ok y st Q)
    | _ => False
  | .block id c, st, Q => awp E ok c st fun e st' => match e with
    | .exit i => if i = id then Q .normal st' else Q (.exit i) st'
    | e => Q e st'
  | .loop c, st, Q => ∃ (ι : Type) (I : ι → St) (m : ι → Nat) (i0 : ι), (∃ st1, Gh st st1 ∧ StLe st1 (I i0)) ∧ ∀ i, awp E ok c (I i) fun e st' => match e with
    | .normal => ∃ j, StLe st' (I j) ∧ m j < m i
    | e => Q e st'
  | .exit id, st, Q => Q (.exit id) st
  | .ret, st, Q => Q .ret st
  | _, _, _ => False

end Go.Sx
