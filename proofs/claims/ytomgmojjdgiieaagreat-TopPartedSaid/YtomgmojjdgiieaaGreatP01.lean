/- The abstract step: what an operation does to abstract values, with its side conditions. No conditions. -/
import Derived.Test.YtomgmojjdgiieaaGreatP00
import Derived.WideKeyMaps
set_option linter.unusedSimpArgs false
set_option linter.unusedVariables false
set_option linter.unusedSectionVars false
namespace Go.Sx
open Go.RowKit
variable [Gls]
def ofVal1 : Value → V
  | .int k n => .int k n
  | .bool b => .bool b
  | .slice none 0 0 => .nil
  | .pointer none => .nilp
  | .nilFunc => .nilf
  | .map none => .nilm
  | _ => .top
def ofVal : Value → V
  | .agg cs => .agg (cs.toList.map ofVal1)
  | v => ofVal1 v
def zc (P : Program) (T : TypeId) : List V :=
  match (P.info? T).bind (·.zero) with
  | some z => z.cells.toList.map ofVal1
  | none => []
def isAg (P : Program) (T : TypeId) : Bool :=
  match P.underlying T with
  | some (.struct _) | some (.array _ _) => true
  | _ => false
def tyOk (P : Program) (T : TypeId) : Bool := (P.underlying T).isSome
def slEl (P : Program) (T : TypeId) : Option TypeId :=
  match P.underlying T with
  | some (.slice e) => some e
  | _ => none
def arEl (P : Program) (T : TypeId) : Option (Nat × TypeId) :=
  match P.underlying T with
  | some (.array n e) => some (n, e)
  | _ => none
def fld (P : Program) (S : TypeId) (f : Nat) : Option (Nat × TypeId) :=
  match P.underlying S with
  | some (.struct fs) => (fs[f]?).map fun x => (x.offset, x.type)
  | _ => none
def V.cells : V → List V
  | .agg cs => cs
  | v => [v]
def V.cell1 : V → Bool
  | .top | .agg _ | .tup _ => false
  | _ => true
def V.refFree1 : V → Bool
  | .bsl .. | .bptr .. | .osl .. | .bmp .. => false
  | .agg _ | .tup _ | .fn _ (_ :: _) => false
  | _ => true
def V.refFree : V → Bool
  | .agg cs => cs.all V.refFree1
  | .tup cs => cs.all V.refFree1
  | .fn _ cs => cs.all V.refFree1
  | v => v.refFree1
def V.scal1 : V → Bool
  | .int .. | .bool _ | .nilp | .nilf | .nilm | .nil => true
  | _ => false
def V.scal : V → Bool
  | .tup cs => cs.all V.scal1
  | .agg cs => cs.all V.scal1
  | v => v.scal1
def V.leaf : V → Bool
  | .agg _ | .tup _ => false
  | .fn _ (_ :: _) => false
  | _ => true
def V.argOk (x : V) : Bool := match x with | .agg cs => cs.all V.leaf | .fn _ cs => cs.all V.leaf | .tup _ => false | _ => true
structure PSpec where
  dom : Type
  enc : dom → List V
  dec : List V → dom
  pre : dom → Prop
  res : dom → V
structure Out where
  c : Prop
  v : V
  h : Hp
structure HSpec where
  go : List V → Hp → Out
inductive Spec where
  | pure (S : PSpec)
  | heap (S : HSpec)
  | iter (S : Nat → HSpec → HSpec)
structure Env where
  P : Program
  fn : Nat → Option Spec
  own : List Nat
  key : Nat
  nt : Nat
  frz : List (Nat × List Nat) := []
  yl : Option (Nat × HSpec) := none
  cfz : List (Nat × List Nat) := []
structure St where
  t : Nat → Bool × V
  h : Hp
def bad (h : Hp) : Out := ⟨False, .top, h⟩
def sub0 : V → V → Prop
  | _, .top => True
  | .nil, .sl _ [] => True
  | .emp, .sl _ [] => True
  | x, y => x = y
def subs0 : List V → List V → Prop
  | [], [] => True
  | x :: xs, y :: ys => sub0 x y ∧ subs0 xs ys
  | _, _ => False
def sub1 : V → V → Prop
  | .agg xs, .agg ys => subs0 xs ys
  | x, y => sub0 x y
def subs1 : List V → List V → Prop
  | [], [] => True
  | x :: xs, y :: ys => sub1 x y ∧ subs1 xs ys
  | _, _ => False
def sub : V → V → Prop
  | .tup xs, .tup ys => subs1 xs ys
  | x, y => sub1 x y
def lendCs (g : V → Prop × V) : List V → Prop × List V
  | [] => (True, [])
  | x :: xs => ((x.leaf = true ∧ (g x).1) ∧ (lendCs g xs).1, (g x).2 :: (lendCs g xs).2)
def lendRs (g : V → Prop × V) : List (List V) → Prop × List (List V)
  | [] => (True, [])
  | x :: xs => ((lendCs g x).1 ∧ (lendRs g xs).1, (lendCs g x).2 :: (lendRs g xs).2)
def lendB (g : V → Prop × V) (B : Blk) : Prop × List (List V) :=
  match B.cl with
  | true => (True, B.els)
  | false => lendRs g B.els
def lendN : Nat → Hp → V → Prop × V
  | _, h, .bmp s i => match mget h s i with
    | some m => (True, .mpi m)
    | none => (False, .top)
  | 0, h, .bsl s i n => match hget h s i with
    | some B => (n = B.els.length ∧ B.cl = true, .sl B.z B.els)
    | none => (False, .top)
  | 0, h, .osl s i n off len cap => match hget h s i with
    | some B => (n = B.els.length ∧ off + len ≤ B.els.length ∧ B.cl = true ∧ len ≤ cap, .sl B.z ((B.els.drop off).take len))
    | none => (False, .top)
  | 0, h, .bptr s i n e j => match hget h s i with
    | some B => (n = B.els.length ∧ B.cl = true ∧ B.els ≠ [], .ip B.z B.els e j)
    | none => (False, .top)
  | f + 1, h, .bsl s i n => match hget h s i with
    | some B => (n = B.els.length ∧ (lendB (lendN f h) B).1, .sl B.z (lendB (lendN f h) B).2)
    | none => (False, .top)
  | f + 1, h, .osl s i n off len cap => match hget h s i with
    | some B => (n = B.els.length ∧ off + len ≤ B.els.length ∧ (lendB (lendN f h) B).1 ∧ len ≤ cap, .sl B.z (((lendB (lendN f h) B).2.drop off).take len))
    | none => (False, .top)
  | f + 1, h, .bptr s i n e j => match hget h s i with
    | some B => (n = B.els.length ∧ (lendB (lendN f h) B).1 ∧ B.els ≠ [], .ip B.z (lendB (lendN f h) B).2 e j)
    | none => (False, .top)
  | _, _, v => (True, v)
def lend1 (h : Hp) (v : V) : Prop × V := lendN 3 h v
def lends1 (h : Hp) : List V → Prop × List V
  | [] => (True, [])
  | x :: xs => ((lend1 h x).1 ∧ (lends1 h xs).1, (lend1 h x).2 :: (lends1 h xs).2)
def lend (h : Hp) : V → Prop × V
  | .agg cs => ((lends1 h cs).1, .agg (lends1 h cs).2)
  | .fn f cs => ((lends1 h cs).1, .fn f (lends1 h cs).2)
  | v => lend1 h v
def lends (h : Hp) : List V → Prop × List V
  | [] => (True, [])
  | x :: xs => ((lend h x).1 ∧ (lends h xs).1, (lend h x).2 :: (lends h xs).2)
def fzCs (g : V → Prop) : List V → Prop
  | [] => True
  | x :: xs => g x ∧ fzCs g xs
def fzRs (g : V → Prop) : List (List V) → Prop
  | [] => True
  | x :: xs => fzCs g x ∧ fzRs g xs
def V.at? : V → Option (Nat × Nat)
  | .bsl s i _ | .osl s i _ _ _ _ | .bptr s i _ _ _ => some (s, i)
  | _ => none
def fzN : Nat → Hp → V → Prop
  | _, _, .bmp .. => False
  | 0, h, x => match x.at? with
    | some (s, i) => match hget h s i with
      | some B => B.fz = true
      | none => False
    | none => True
  | f + 1, h, x => match x.at? with
    | some (s, i) => match hget h s i with
      | some B => B.fz = true ∧ (B.cl = true ∨ fzRs (fzN f h) B.els)
      | none => False
    | none => True
def fzA (h : Hp) : V → Prop
  | .agg cs => fzCs (fzN 3 h) cs
  | .fn _ cs => fzCs (fzN 3 h) cs
  | v => fzN 3 h v
def lkf : List (Nat × List Nat) → Nat → List Nat
  | [], _ => []
  | (a, p) :: r, id => if id = a then p else lkf r id
def frzH (h : Hp) (s s' : Nat) : Site := if s' = s then { h s with blks := (h s).blks.map fun B => { B with fz := true } } else h s'
def frzHs : List Nat → Hp → Hp
  | [], h => h
  | s :: r, h => frzHs r (frzH h s)
def callF (E : Env) (f : Nat) (args : List V) (h : Hp) : Out :=
  match E.fn f with
  | some (.pure S) =>
    let l := lends h args
    let d := S.dec l.2
    ⟨args.all V.argOk = true ∧ l.1 ∧ subs1 l.2 (S.enc d) ∧ S.pre d ∧ (args.all V.refFree = true ∨ (S.res d).scal = true ∨ fzCs (fzA h) args), S.res d, h⟩
  | some (.heap S) => S.go args h
  | some (.iter S) => match E.yl with
    | some (l, Y) => ⟨((h YS).blks = [] ∧ (h YS).fl = false) ∧ ((S l Y).go args h).c, ((S l Y).go args h).v, ((S l Y).go args h).h⟩
    | none => bad h
  | none => bad h
def mpEl (P : Program) (T : TypeId) : Option (TypeId × TypeId) := match P.underlying T with | some (.map k e) => some (k, e) | _ => none
structure KT (P : Program) (k : TypeId) : Prop where
  law : WideMaps.KeyLaw P k
  key : ∀ p, kR p → (keyOf P k (cvK p)).isSome = true
def allInts : List V → Option (List Int)
  | [] => some []
  | .int .i64 n :: r => (allInts r).map (n :: ·)
  | _ :: _ => none
def xI : V → Option (Bool × List Int)
  | .int .i64 n => some (true, [n])
  | .agg cs => (allInts cs).map fun l => (false, l)
  | _ => none
def xV (sc : Bool) (l : List Int) : V := match sc with | true => .int .i64 (l.headD 0) | false => .agg (l.map fun n => .int .i64 n)
def zMp (P : Program) (e : TypeId) : Option (Bool × List Int) := match (P.info? e).bind (·.zero) with
  | some (.int .i64 n) => some (true, [n])
  | some (.agg us) => (allInts (us.toList.map ofVal1)).map fun l => (false, l)
  | _ => none
def mlook : List ((Int × Int × Int) × List Int) → Int × Int × Int → Option (List Int)
  | [], _ => none
  | (k', v) :: r, k => if k = k' then some v else mlook r k
def mput : List ((Int × Int × Int) × List Int) → Int × Int × Int → List Int → List ((Int × Int × Int) × List Int)
  | [], k, v => [(k, v)]
  | (k', x) :: r, k, v => if k = k' then (k', v) :: r else (k', x) :: mput r k v
def Mp.get (m : Mp) (k : Int × Int × Int) : List Int := (mlook m.es k).getD m.d
def mpV (h : Hp) : V → Option Mp
  | .mpi m => some m
  | .bmp s i => mget h s i
  | _ => none
def sMkMap (P : Program) (key : Nat) (T : TypeId) (r : Option V) (h : Hp) : Out :=
  match (mpEl P T).bind fun p => zMp P p.2 with
  | some z => ⟨(match r with | some (.int _ _) => True | none => True | _ => False), .bmp key (h key).mps.length, mpush h key { sc := z.1, d := z.2, es := [] }⟩
  | none => bad h
def sLook (P : Program) (T : TypeId) (m k : V) (ok : Bool) (h : Hp) : Out :=
  match mpEl P T, k, mpV h m with
  | some p, .agg [.int .i64 a, .int .i64 b, .int .i64 c], some M => ⟨KT P p.1 ∧ kR (a, b, c) ∧ zMp P p.2 = some (M.sc, M.d),
      match ok with | true => .tup [xV M.sc (M.get (a, b, c)), .bool (mlook M.es (a, b, c)).isSome] | false => xV M.sc (M.get (a, b, c)), h⟩
  | _, _, _ => bad h
def sMapSet (P : Program) (T : TypeId) (m k x : V) (h : Hp) : Out :=
  match mpEl P T, k, m, xI x with
  | some p, .agg [.int .i64 a, .int .i64 b, .int .i64 c], .bmp s i, some y => match mget h s i with
    | some M => ⟨KT P p.1 ∧ kR (a, b, c) ∧ y.1 = M.sc ∧ s ≠ YS, .top, mset h s i { M with es := mput M.es (a, b, c) y.2 }⟩
    | none => bad h
  | _, _, _, _ => bad h
def bitw (op : BinOp) (k : IntKind) (x y : Int) : Int :=
  let a := BitVec.ofInt k.bits x
  let b := BitVec.ofInt k.bits y
  match op with
  | .and => k.wrap (a &&& b).toNat
  | .or => k.wrap (a ||| b).toNat
  | .xor => k.wrap (a ^^^ b).toNat
  | _ => k.wrap (a &&& ~~~b).toNat
def isPtr (P : Program) (T : TypeId) : Bool := match P.underlying T with | some (.pointer _) => true | _ => false
def isFn (P : Program) (T : TypeId) : Bool := match P.underlying T with | some (.func ..) => true | _ => false
def isBool (P : Program) (T : TypeId) : Bool := match P.underlying T with | some .bool => true | _ => false
def intK (P : Program) (T : TypeId) : Option IntKind := match P.underlying T with | some (.int k) => some k | _ => none
def leafTs (P : Program) (T : TypeId) : List TypeId :=
  match P.underlying T with
  | some (.array n e) => List.replicate n e
  | some (.struct fs) => fs.toList.map (·.type)
  | _ => []
def scalT (P : Program) (T : TypeId) : Bool := match P.underlying T with | some (.int _) | some .bool => true | _ => false
def flatEq (P : Program) (T : TypeId) : Bool :=
  match P.underlying T with
  | some (.array _ e) => scalT P e && P.cellsOf e == 1 && (P.info? e).isSome && !P.eqGuardType P.depth T
  | some (.struct fs) => fs.toList.all (fun f => f.name != "_" && scalT P f.type) && !P.stoodInHeld T && !P.eqGuardType P.depth T && fs.toList.map (·.offset) == List.range fs.size
  | _ => false
def eqTs (P : Program) : List TypeId → List V → List V → Prop × Bool
  | [], [], [] => (True, true)
  | t :: ts, .int k m :: a, .int k' n :: b => (((intK P t).isSome = true ∧ k = k') ∧ (eqTs P ts a b).1, (m == n) && (eqTs P ts a b).2)
  | t :: ts, .bool p :: a, .bool q :: b => (isBool P t = true ∧ (eqTs P ts a b).1, (p == q) && (eqTs P ts a b).2)
  | _, _, _ => (False, false)
def eqV (P : Program) (T : TypeId) (a b : V) : Prop × Bool :=
  match a, b with
  | .agg xs, .agg ys => (flatEq P T = true ∧ (eqTs P (leafTs P T) xs ys).1, (eqTs P (leafTs P T) xs ys).2)
  | .bool p, .bool q => (isBool P T = true, p == q)
  | .nilp, .nilp => (isPtr P T = true, true)
  | .nilp, .bptr .. | .bptr .., .nilp | .nilp, .ip .. | .ip .., .nilp => (isPtr P T = true, false)
  | .nil, .nil => ((slEl P T).isSome = true, true)
  | .sl _ els, .nil | .nil, .sl _ els => ((slEl P T).isSome = true ∧ els ≠ [], false)
  | .osl .., .nil | .nil, .osl .. => ((slEl P T).isSome = true, false)
  | .emp, .nil | .nil, .emp => ((slEl P T).isSome = true, false)
  | .nilf, .nilf => (isFn P T = true, true)
  | .nilf, .fn .. | .fn .., .nilf => (isFn P T = true, false)
  | _, _ => (False, false)
def shlV (k : IntKind) (m n : Int) : Int := k.wrap (m * 2 ^ (min n.toNat k.bits))
def shrV (k : IntKind) (m n : Int) : Int := m.fdiv (2 ^ (min n.toNat k.bits))
def unkE (a b : V) : Bool :=
  match a, b with
  | .sl _ els, .nil | .nil, .sl _ els => els.isEmpty
  | _, _ => false
def binV (P : Program) (op : BinOp) (T : TypeId) (a b : V) : Prop × V :=
  match a, b with
  | .int k m, .int k' n =>
    match op with
    | .add => (k = k', .int k (k.wrap (m + n)))
    | .sub => (k = k', .int k (k.wrap (m - n)))
    | .mul => (k = k', .int k (k.wrap (m * n)))
    | .quo => (k = k' ∧ n ≠ 0, .int k (k.wrap (m.tdiv n)))
    | .rem => (k = k' ∧ n ≠ 0, .int k (m.tmod n))
    | .shl => (0 ≤ n, .int k (shlV k m n))
    | .shr => (0 ≤ n, .int k (shrV k m n))
    | .and => (k = k', .int k (bitw .and k m n))
    | .or => (k = k', .int k (bitw .or k m n))
    | .xor => (k = k', .int k (bitw .xor k m n))
    | .andNot => (k = k', .int k (bitw .andNot k m n))
    | .eql => (k = k', .bool (m == n))
    | .neq => (k = k', .bool (m != n))
    | .lss => (k = k', .bool (decide (m < n)))
    | .leq => (k = k', .bool (decide (m ≤ n)))
    | .gtr => (k = k', .bool (decide (m > n)))
    | .geq => (k = k', .bool (decide (m ≥ n)))
  | _, _ =>
    match op with
    | .eql => if unkE a b = true then ((slEl P T).isSome = true, .anyb) else ((eqV P T a b).1, .bool (eqV P T a b).2)
    | .neq => if unkE a b = true then ((slEl P T).isSome = true, .anyb) else ((eqV P T a b).1, .bool (!(eqV P T a b).2))
    | _ => (False, .top)
def vite (b : Bool) (x y : V) : V :=
  match x, y with
  | .bool p, .bool q => .bool (if b then p else q)
  | .int k m, .int k' n => if k = k' then .int k (if b then m else n) else (if b then .int k m else .int k' n)
  | x, y => if b then x else y
def splice (row : List V) (j : Nat) (cs : List V) : List V := row.take j ++ cs ++ row.drop (j + cs.length)
def loadR (P : Program) (T : TypeId) (row : List V) (j : Nat) : V :=
  if isAg P T then .agg ((row.drop j).take (P.cellsOf T)) else row.getD j .top
def fills (place : Nat → Option (Nat × Nat)) : List V → List (Nat × V) → Prop × List V
  | cells, [] => (True, cells)
  | cells, (i, v) :: rest =>
    match place i with
    | none => (False, cells)
    | some (off, size) =>
      let r := fills place (splice cells off v.cells) rest
      (v.cells.length = size ∧ off + size ≤ cells.length ∧ v.cells.all V.cell1 = true ∧ r.1, r.2)
def fillRows (size : Nat) : List (List V) → List (Nat × V) → Prop × List (List V)
  | rows, [] => (True, rows)
  | rows, (i, v) :: rest =>
    let r := fillRows size (rows.set i v.cells) rest
    (v.cells.length = size ∧ i < rows.length ∧ v.cells.all V.cell1 = true ∧ r.1, r.2)
def V.len : V → Option Nat
  | .nil => some 0
  | .sl _ els => some els.length
  | .bsl _ _ n => some n
  | .osl _ _ _ _ len _ => some len
  | .emp => some 0
  | _ => none
def asI : V → Option Int
  | .int _ n => some n
  | _ => none
def optI (ρ : Operand → V) : Option Operand → Option (Option Int)
  | none => some none
  | some x => (asI (ρ x)).map some
def foldMax (k : IntKind) (isMax : Bool) : Int → List V → Prop × Int
  | m, [] => (True, m)
  | m, .int k' n :: r => let x := foldMax k isMax (if isMax then (if n > m then n else m) else (if n < m then n else m)) r; (k = k' ∧ x.1, x.2)
  | m, _ :: _ => (False, m)
def appendV (E : Env) (key : Nat) (T : TypeId) (s x : V) (h : Hp) : Out :=
  match slEl E.P T with
  | none => bad h
  | some e =>
    let z := E.P.cellsOf e
    let src : Prop × List (List V) × Bool := match x with
      | .nil => (True, [], true)
      | .sl z' els => (z' = z, els, true)
      | .bsl s' i' n' => match hget h s' i' with
        | some B => (B.z = z ∧ n' = B.els.length, B.els, B.cl)
        | none => (False, [], true)
      | .osl s' i' n' off len _ => match hget h s' i' with
        | some B => (B.z = z ∧ n' = B.els.length ∧ off + len ≤ B.els.length, (B.els.drop off).take len, B.cl)
        | none => (False, [], true)
      | _ => (False, [], true)
    match s with
    | .nil =>
      ⟨src.1 ∧ 0 < z ∧ (zc E.P e).length = z ∧ 0 < E.P.bytesOf e ∧ (src.2.1.length) * E.P.bytesOf e ≤ 140737488355328, .bsl key (hnext h key) src.2.1.length, hpush h key { z := z, els := src.2.1, ty := e, cl := src.2.2 }⟩
    | .bsl s0 i0 n0 =>
      match hget h s0 i0 with
      | none => bad h
      | some B => ⟨src.1 ∧ 0 < z ∧ (zc E.P e).length = z ∧ 0 < E.P.bytesOf e ∧ B.z = z ∧ B.ty = e ∧ B.fz = false ∧ n0 = B.els.length ∧ (B.els.length + src.2.1.length) * E.P.bytesOf e ≤ 140737488355328,
          .bsl s0 i0 (B.els.length + src.2.1.length), hset h s0 i0 { B with els := B.els ++ src.2.1, cl := B.cl && src.2.2 }⟩
    | .osl s0 i0 n0 off len cap =>
      match hget h s0 i0 with
      | none => bad h
      | some B => ⟨src.1 ∧ 0 < z ∧ B.z = z ∧ (zc E.P e).length = z ∧ B.ty = e ∧ B.fz = false ∧ n0 = B.els.length ∧ off = 0 ∧ B.els ≠ [] ∧ len + src.2.1.length ≤ cap ∧ cap ≤ B.els.length,
          .osl s0 i0 n0 0 (len + src.2.1.length) cap, hset h s0 i0 { B with els := B.els.take len ++ src.2.1 ++ B.els.drop (len + src.2.1.length), cl := B.cl && src.2.2 }⟩
    | .emp => if E.own.contains (key - E.key + 600000) = true then ⟨(src.1 ∧ src.2.2 = true) ∧ 0 < z ∧ (zc E.P e).length = z ∧ 0 < E.P.bytesOf e ∧ (src.2.1.length) * E.P.bytesOf e ≤ 140737488355328, .sl z src.2.1, h⟩ else if src.2.1 = [] then ⟨src.1 ∧ 0 < z ∧ (zc E.P e).length = z, .emp, h⟩ else
      ⟨src.1 ∧ 0 < z ∧ (zc E.P e).length = z ∧ 0 < E.P.bytesOf e ∧ (src.2.1.length) * E.P.bytesOf e ≤ 140737488355328, .osl key (hnext h key) src.2.1.length 0 src.2.1.length src.2.1.length, hpush h key { z := z, els := src.2.1, ty := e, cl := src.2.2 }⟩
    | _ => bad h
def sliceV (P : Program) (T : TypeId) (x : V) (lo hi mx : Option (Option Int)) (h : Hp) : Prop × V :=
  match lo, hi, mx with
  | some lo, some hi, some none =>
    let l := lo.getD 0
    match x with
    | .nil => (slEl P T ≠ none ∧ l = 0 ∧ hi.getD 0 = 0 ∧ 0 < ((slEl P T).map P.cellsOf).getD 0, .nil)
    | .sl z els => (slEl P T ≠ none ∧ (slEl P T).map P.cellsOf = some z ∧ 0 ≤ l ∧ l ≤ hi.getD els.length ∧ hi.getD els.length ≤ els.length ∧ 0 < z, .sl z ((els.drop l.toNat).take ((hi.getD els.length).toNat - l.toNat)))
    | .ip z els e j => match arEl P T with
      | some (n, el) => (P.cellsOf el = 1 ∧ 0 ≤ l ∧ l ≤ hi.getD n ∧ hi.getD n ≤ n ∧ e < els.length ∧ j + n ≤ z, .sl 1 (((((els.getD e []).drop j).drop l.toNat).take ((hi.getD n).toNat - l.toNat)).map fun c => [c]))
      | none => (False, .top)
    | .bptr s i n0 e j => match arEl P T, hget h s i with
      | some (n, el), some B => (B.fz = true ∧ B.cl = true ∧ n0 = B.els.length ∧ P.cellsOf el = 1 ∧ 0 ≤ l ∧ l ≤ hi.getD n ∧ hi.getD n ≤ n ∧ e < B.els.length ∧ j + n ≤ B.z, .sl 1 (((((B.els.getD e []).drop j).drop l.toNat).take ((hi.getD n).toNat - l.toNat)).map fun c => [c]))
      | _, _ => (False, .top)
    | .bsl s i n => match hget h s i with
      | some B => match B.fz with
        | true => (slEl P T ≠ none ∧ (slEl P T).map P.cellsOf = some B.z ∧ n = B.els.length ∧ 0 < n ∧ 0 ≤ l ∧ l ≤ hi.getD n ∧ hi.getD n ≤ n ∧ B.cl = true ∧ 0 < B.z, .sl B.z ((B.els.drop l.toNat).take ((hi.getD n).toNat - l.toNat)))
        | false => (slEl P T ≠ none ∧ (slEl P T).map P.cellsOf = some B.z ∧ n = B.els.length ∧ 0 ≤ l ∧ l ≤ hi.getD n ∧ hi.getD n ≤ n ∧ l < n ∧ 0 < B.z, .osl s i n l.toNat ((hi.getD n).toNat - l.toNat) (n - l.toNat))
      | none => (False, .top)
    | .osl s i n off len cap => ((slEl P T ≠ none ∧ 0 < ((slEl P T).map P.cellsOf).getD 0 ∧ 0 ≤ l ∧ l ≤ hi.getD len ∧ hi.getD len ≤ cap ∧ len ≤ cap) ∧ (l = 0 ∨ (l < cap ∧ match hget h s i with | some B => (slEl P T).map P.cellsOf = some B.z | none => False)), .osl s i n (off + l.toNat) ((hi.getD len).toNat - l.toNat) (cap - l.toNat))
    | _ => (False, .top)
  | some lo, some (some hi), some (some m) =>
    match x with
    | .bsl s i n => match hget h s i with
      | some B => (slEl P T ≠ none ∧ 0 < ((slEl P T).map P.cellsOf).getD 0 ∧ n = B.els.length ∧ 0 ≤ lo.getD 0 ∧ lo.getD 0 ≤ hi ∧ hi ≤ m ∧ m ≤ n, .top)
      | none => (False, .top)
    | .osl _ _ _ _ _ cap => (slEl P T ≠ none ∧ 0 < ((slEl P T).map P.cellsOf).getD 0 ∧ 0 ≤ lo.getD 0 ∧ lo.getD 0 ≤ hi ∧ hi ≤ m ∧ m ≤ cap, .top)
    | _ => (False, .top)
  | _, _, _ => (False, .top)
def sCut (P : Program) (key : Nat) (T : TypeId) (x : V) (lo hi mx : Option (Option Int)) (h : Hp) : Out :=
  match lo, hi, mx, x, slEl P T with
  | some lo, some hi, some none, .bsl s i n, some e =>
    match hget h s i with
    | some B => ⟨B.z = P.cellsOf e ∧ 0 < B.z ∧ n = B.els.length ∧ B.fz = false ∧ 0 ≤ lo.getD 0 ∧ lo.getD 0 ≤ hi.getD n ∧ hi.getD n ≤ n, .bsl key (hnext h key) ((hi.getD n).toNat - (lo.getD 0).toNat),
        hpush (hcut h s i) key { B with els := (B.els.drop (lo.getD 0).toNat).take ((hi.getD n).toNat - (lo.getD 0).toNat) }⟩
    | none => bad h
  | _, _, _, _, _ => bad h
def takeV (k : Nat) : V → V
  | .sl z els => .sl z (els.take k)
  | .osl s i n off len cap => .osl s i n off (min k len) cap
  | v => v
def srcB (h : Hp) (z : Nat) (x : V) : Prop × List (List V) × Bool :=
  match x with
  | .nil => (True, [], true)
  | .sl z' els => (z' = z, els, true)
  | .bsl s' i' n' => match hget h s' i' with
    | some B => (B.z = z ∧ n' = B.els.length, B.els, B.cl)
    | none => (False, [], true)
  | .osl s' i' n' off len _ => match hget h s' i' with
    | some B => (B.z = z ∧ n' = B.els.length ∧ off + len ≤ B.els.length, (B.els.drop off).take len, B.cl)
    | none => (False, [], true)
  | _ => (False, [], true)
def sCopy (P : Program) (T : TypeId) (d x : V) (h : Hp) : Out :=
  match slEl P T, d, x.len with
  | some e, .osl s0 i0 n0 off len cap, some m =>
    match hget h s0 i0 with
    | some B => ⟨(srcB h B.z (takeV (min m len) x)).1 ∧ (srcB h B.z (takeV (min m len) x)).2.1.length = min m len ∧ B.z = P.cellsOf e ∧ 0 < B.z ∧ (zc P e).length = P.cellsOf e ∧ B.ty = e ∧ B.fz = false ∧ n0 = B.els.length ∧ B.els ≠ [] ∧ off + len ≤ B.els.length, .int .i64 (min m len : Nat),
        hset h s0 i0 { B with els := B.els.take off ++ (srcB h B.z (takeV (min m len) x)).2.1 ++ B.els.drop (off + min m len), cl := B.cl && (srcB h B.z (takeV (min m len) x)).2.2 }⟩
    | none => bad h
  | _, _, _ => bad h
def sClear (P : Program) (T : TypeId) (x : V) (h : Hp) : Out :=
  match slEl P T, x with
  | some e, .osl s i n off len _ =>
    match hget h s i with
    | some B => ⟨B.z = P.cellsOf e ∧ 0 < B.z ∧ (zc P e).length = P.cellsOf e ∧ (zc P e).all V.cell1 = true ∧ B.fz = false ∧ n = B.els.length ∧ B.els ≠ [] ∧ off + len ≤ B.els.length ∧ 0 < len, .tup [],
        hset h s i { B with els := B.els.take off ++ List.replicate len (zc P e) ++ B.els.drop (off + len) }⟩
    | none => bad h
  | _, _ => bad h
def sAlloc (P : Program) (key : Nat) (T : TypeId) (h : Hp) : Out :=
  ⟨(zc P T).length = P.cellsOf T ∧ 0 < P.cellsOf T ∧ (zc P T).all V.cell1 = true, .bptr key (hnext h key) 1 0 0, hpush h key { z := P.cellsOf T, els := [zc P T], ty := T }⟩
def sBox (P : Program) (key : Nat) (T : TypeId) (x : V) (h : Hp) : Out :=
  ⟨x.cells.length = P.cellsOf T ∧ x.cells.all V.cell1 = true, .bptr key (hnext h key) 1 0 0, hpush h key { z := P.cellsOf T, els := [x.cells], ty := T, cl := x.cells.all V.refFree }⟩
def fldsOk (P : Program) (T : TypeId) : Bool :=
  match P.underlying T with
  | some (.struct fs) => fs.toList.all fun f => decide (0 < P.cellsOf f.type)
  | _ => true
def isSt (P : Program) (T : TypeId) : Bool := match P.underlying T with | some (.struct _) => true | _ => false
def sBuild (P : Program) (T : TypeId) (parts : List (Nat × V)) (h : Hp) : Out :=
  match isSt P T, arEl P T with
  | true, _ =>
    match fills (fun i => (fld P T i).map fun p => (p.1, P.cellsOf p.2)) (zc P T) parts with
    | (c, r) => ⟨(zc P T).length = P.cellsOf T ∧ 0 < P.cellsOf T ∧ (zc P T).all V.cell1 = true ∧ fldsOk P T = true ∧ c, .agg r, h⟩
  | false, some (_, e) =>
    match fills (fun i => some (i * P.cellsOf e, P.cellsOf e)) (zc P T) parts with
    | (c, r) => ⟨(zc P T).length = P.cellsOf T ∧ 0 < P.cellsOf T ∧ (zc P T).all V.cell1 = true ∧ 0 < P.cellsOf e ∧ c, .agg r, h⟩
  | _, _ => bad h
def sBuildSlice (P : Program) (own : Bool) (key : Nat) (T : TypeId) (n : Nat) (parts : List (Nat × V)) (h : Hp) : Out :=
  match slEl P T with
  | some e =>
    match fillRows (P.cellsOf e) (List.replicate n (zc P e)) parts with
    | (c, r) =>
      if own then ⟨((zc P e).length = P.cellsOf e ∧ 0 < P.cellsOf e ∧ n * P.cellsOf e ≤ 1048576 ∧ (zc P e).all V.cell1 = true ∧ c), .bsl key (hnext h key) n, hpush h key { z := P.cellsOf e, els := r, ty := e, cl := r.all fun row => row.all V.refFree }⟩
      else ⟨((zc P e).length = P.cellsOf e ∧ 0 < P.cellsOf e ∧ n * P.cellsOf e ≤ 1048576 ∧ (zc P e).all V.cell1 = true ∧ c) ∧ (r.all fun row => row.all V.refFree) = true, .sl (P.cellsOf e) r, h⟩
  | none => bad h
def sBuildE (P : Program) (T : TypeId) (n : Nat) (parts : List (Nat × V)) (h : Hp) : Out :=
  match slEl P T, n, parts with
  | some e, 0, [] => ⟨0 < P.cellsOf e ∧ (zc P e).length = P.cellsOf e, .emp, h⟩
  | _, _, _ => bad h
omit [Gls] in
theorem sBuildE_h (P : Program) (T : TypeId) (n : Nat) (parts : List (Nat × V)) (h : Hp) : (sBuildE P T n parts h).h = h := by
  unfold sBuildE; split <;> rfl
omit [Gls] in
theorem sBuildE_free (P : Program) (T : TypeId) (n : Nat) (parts : List (Nat × V)) (h h' : Hp) : sBuildE P T n parts h' = { sBuildE P T n parts h with h := h' } := by
  unfold sBuildE; split <;> rfl
def sLoad (P : Program) (T : TypeId) (a : V) (h : Hp) : Out :=
  match a with
  | .ip z els e j => ⟨e < els.length ∧ j + P.cellsOf T ≤ z ∧ (isAg P T = false → P.cellsOf T = 1) ∧ tyOk P T = true ∧ 0 < P.cellsOf T, loadR P T (els.getD e []) j, h⟩
  | .bptr s i n e j => match hget h s i with
    | some B => ⟨n = B.els.length ∧ e < B.els.length ∧ j + P.cellsOf T ≤ B.z ∧ (isAg P T = false → P.cellsOf T = 1) ∧ tyOk P T = true ∧ 0 < P.cellsOf T, loadR P T (B.els.getD e []) j, h⟩
    | none => bad h
  | _ => bad h
def sStore (P : Program) (T : TypeId) (a x : V) (h : Hp) : Out :=
  match a with
  | .bptr s i n e j => match hget h s i with
    | some B => ⟨n = B.els.length ∧ e < B.els.length ∧ j + P.cellsOf T ≤ B.z ∧ 0 < P.cellsOf T ∧ B.fz = false ∧ x.cells.length = P.cellsOf T ∧ x.cells.all V.cell1 = true, .top,
        hset h s i { B with els := B.els.set e (splice (B.els.getD e []) j x.cells), cl := B.cl && x.cells.all V.refFree }⟩
    | none => bad h
  | _ => bad h
def sUn (op : UnOp) (x : V) (h : Hp) : Out :=
  match op, x with
  | .not, .bool b => ⟨True, .bool !b, h⟩
  | .neg, .int k n => ⟨True, .int k (k.wrap (0 - n)), h⟩
  | _, _ => bad h
def sConv (P : Program) (S D : TypeId) (x : V) (h : Hp) : Out :=
  match x, intK P S, intK P D with
  | .int _ n, some _, some k => ⟨True, .int k (k.wrap n), h⟩
  | _, _, _ => bad h
def sMakeSlice (P : Program) (own : Bool) (key : Nat) (T : TypeId) (l c : V) (h : Hp) : Out :=
  match slEl P T, l, c with
  | some e, .int _ n, .int _ m =>
    if own then
      ⟨0 ≤ n ∧ n ≤ m ∧ (zc P e).length = P.cellsOf e ∧ 0 < P.cellsOf e ∧ (zc P e).all V.cell1 = true ∧ m * P.bytesOf e ≤ 140737488355328 ∧ m ≤ 9223372036854775807, .osl key (hnext h key) m.toNat 0 n.toNat m.toNat,
        hpush h key { z := P.cellsOf e, els := List.replicate m.toNat (zc P e), ty := e }⟩
    else
      ⟨0 ≤ n ∧ n ≤ m ∧ (zc P e).length = P.cellsOf e ∧ 0 < P.cellsOf e ∧ (zc P e).all V.cell1 = true ∧ m * P.bytesOf e ≤ 140737488355328 ∧ m ≤ 9223372036854775807, .bsl key (hnext h key) n.toNat,
        hpush h key { z := P.cellsOf e, els := List.replicate n.toNat (zc P e), ty := e }⟩
  | _, _, _ => bad h
def sAppendZ (P : Program) (own : Bool) (key : Nat) (T T2 : TypeId) (s x : V) (h : Hp) : Out :=
  match slEl P T, intK P T2, s, x with
  | some e, some _, .nil, .int _ m =>
    ⟨own = true ∧ 0 < m ∧ (zc P e).length = P.cellsOf e ∧ 0 < P.cellsOf e ∧ (zc P e).all V.cell1 = true ∧ m * P.bytesOf e ≤ 140737488355328 ∧ m ≤ 9223372036854775807, .osl key (hnext h key) m.toNat 0 m.toNat m.toNat,
      hpush h key { z := P.cellsOf e, els := List.replicate m.toNat (zc P e), ty := e }⟩
  | _, _, _, _ => bad h
def sCap (P : Program) (T : TypeId) (x : V) (h : Hp) : Out :=
  match x with
  | .nil => ⟨(slEl P T).isSome = true, .int .i64 0, h⟩
  | _ => bad h
def sFieldAddr (P : Program) (S : TypeId) (x : V) (f : Nat) (h : Hp) : Out :=
  match x, fld P S f with
  | .ip z els e j, some (o, ft) => ⟨0 < P.cellsOf ft, .ip z els e (j + o), h⟩
  | .bptr s i n e j, some (o, ft) => ⟨0 < P.cellsOf ft, .bptr s i n e (j + o), h⟩
  | _, _ => bad h
def sField (P : Program) (S : TypeId) (x : V) (f : Nat) (h : Hp) : Out :=
  match x, fld P S f with
  | .agg cs, some (o, ft) => ⟨o + P.cellsOf ft ≤ cs.length ∧ 0 < P.cellsOf ft ∧ (isAg P ft = false → P.cellsOf ft = 1) ∧ tyOk P ft = true, loadR P ft cs o, h⟩
  | _, _ => bad h
def sIndexAddr (P : Program) (T : TypeId) (x : V) (ix : V) (h : Hp) : Out :=
  match ix with
  | .int _ n => match x, slEl P T, arEl P T with
    | .sl z els, some e, _ => ⟨z = P.cellsOf e ∧ 0 < z ∧ 0 ≤ n ∧ n < els.length, .ip z els n.toNat 0, h⟩
    | .bsl s i m, some e, _ => match hget h s i with
      | some B => ⟨B.z = P.cellsOf e ∧ 0 < B.z ∧ m = B.els.length ∧ 0 ≤ n ∧ n < m, .bptr s i m n.toNat 0, h⟩
      | none => bad h
    | .osl s i m off len _, some e, _ => match hget h s i with
      | some B => ⟨B.z = P.cellsOf e ∧ 0 < B.z ∧ m = B.els.length ∧ 0 ≤ n ∧ n < len, .bptr s i m (off + n.toNat) 0, h⟩
      | none => bad h
    | .ip z els e0 j, _, some (len, e) => ⟨0 ≤ n ∧ n < len ∧ 0 < P.cellsOf e, .ip z els e0 (j + n.toNat * P.cellsOf e), h⟩
    | .bptr s i m e0 j, _, some (len, e) => ⟨0 ≤ n ∧ n < len ∧ 0 < P.cellsOf e, .bptr s i m e0 (j + n.toNat * P.cellsOf e), h⟩
    | _, _, _ => bad h
  | _ => bad h
def sIndex (P : Program) (T : TypeId) (x : V) (ix : V) (h : Hp) : Out :=
  match ix, x, arEl P T with
  | .int _ n, .agg cs, some (len, e) => ⟨0 ≤ n ∧ n < len ∧ cs.length = len * P.cellsOf e ∧ 0 < P.cellsOf e ∧ (isAg P e = false → P.cellsOf e = 1) ∧ tyOk P e = true, loadR P e cs (n.toNat * P.cellsOf e), h⟩
  | _, _, _ => bad h
def sLen (P : Program) (T : TypeId) (x : V) (h : Hp) : Out :=
  match x.len with
  | some n => ⟨(slEl P T).isSome = true, .int .i64 n, h⟩
  | none => bad h
def sMax (isMax : Bool) (xs : List V) (h : Hp) : Out :=
  match xs with
  | .int k m :: r => ⟨(foldMax k isMax m r).1, .int k (foldMax k isMax m r).2, h⟩
  | _ => bad h
def sCall (E : Env) (f : V) (args : List V) (h : Hp) : Out :=
  match f with
  | .fn g caps => callF E g (args ++ caps) h
  | .yld l => match E.yl with
    | some (l', Y) => if l = l' then Y.go args h else bad h
    | none => bad h
  | _ => bad h
def preZ (E : Env) (dst : Nat) (f : V) (h : Hp) : Hp :=
  match f with
  | .fn g _ => match E.fn g with
    | some (.pure _) => frzHs (lkf E.cfz dst) h
    | _ => h
  | _ => h
def sExtract (x : V) (ix : Nat) (h : Hp) : Out :=
  match x with
  | .tup vs => ⟨ix < vs.length, vs.getD ix .top, h⟩
  | _ => bad h
def sPick (c a b : V) (h : Hp) : Out :=
  match c with
  | .bool t => ⟨True, vite t a b, h⟩
  | _ => bad h
def sNil (x : V) (h : Hp) : Out :=
  match x with
  | .bptr .. | .ip .. => ⟨True, x, h⟩
  | _ => bad h
def sem (E : Env) (dst : Nat) (op : Op) (ρ : Operand → V) (h : Hp) : Out :=
  match op with
  | .move x | .assign x => ⟨True, ρ x, h⟩
  | .pick c a b => sPick (ρ c) (ρ a) (ρ b) h
  | .alloc T => sAlloc E.P (E.key + dst) T h
  | .box T x => sBox E.P (E.key + dst) T (ρ x) h
  | .build T parts => sBuild E.P T (parts.toList.map fun p => (p.1, ρ p.2)) h
  | .buildSlice T n parts => if E.own.contains (dst + 500000) then sBuildE E.P T n (parts.toList.map fun p => (p.1, ρ p.2)) h else sBuildSlice E.P (E.own.contains dst) (E.key + dst) T n (parts.toList.map fun p => (p.1, ρ p.2)) h
  | .load T a => sLoad E.P T (ρ a) h
  | .store T a x => sStore E.P T (ρ a) (ρ x) h
  | .nilCheck x => sNil (ρ x) h
  | .binOp op T x y _ => match binV E.P op T (ρ x) (ρ y) with | (c, v) => ⟨c, v, h⟩
  | .unOp op _ x => sUn op (ρ x) h
  | .convert S D x => sConv E.P S D (ρ x) h
  | .makeFunc (.func f) first caps => if first.isEmpty then ⟨True, .fn f (caps.toList.map ρ), h⟩ else bad h
  | .makeSlice T l c => sMakeSlice E.P (E.own.contains dst) (E.key + dst) T (ρ l) (ρ c) h
  | .slice T x lo hi mx => if E.own.contains dst then sCut E.P (E.key + dst) T (ρ x) (optI ρ lo) (optI ρ hi) (optI ρ mx) h else match sliceV E.P T (ρ x) (optI ρ lo) (optI ρ hi) (optI ρ mx) h with | (c, v) => ⟨c, v, h⟩
  | .fieldAddr S x f => sFieldAddr E.P S (ρ x) f h
  | .field S x f => sField E.P S (ρ x) f h
  | .indexAddr T x ix => sIndexAddr E.P T (ρ x) (ρ ix) h
  | .index T x ix => sIndex E.P T (ρ x) (ρ ix) h
  | .extract x ix => sExtract (ρ x) ix h
  | .makeMap T r => sMkMap E.P (E.key + dst) T (r.map ρ) h
  | .lookup T m k ok => sLook E.P T (ρ m) (ρ k) ok h
  | .mapUpdate T m k x | .insert T m k x => sMapSet E.P T (ρ m) (ρ k) (ρ x) h
  | .call c => match c.callee with
    | .builtin .len => match c.args.toList, c.argTypes.toList with
      | [x], [T] => sLen E.P T (ρ x) h
      | _, _ => bad h
    | .builtin .cap => match c.args.toList, c.argTypes.toList with
      | [x], [T] => sCap E.P T (ρ x) h
      | _, _ => bad h
    | .builtin .clear => match c.args.toList, c.argTypes.toList with
      | [x], [T] => sClear E.P T (ρ x) h
      | _, _ => bad h
    | .builtin .copy => match c.args.toList, c.argTypes.toList with
      | [d, x], [T, _] => sCopy E.P T (ρ d) (ρ x) h
      | _, _ => bad h
    | .builtin .max => sMax true (c.args.toList.map ρ) h
    | .builtin .min => sMax false (c.args.toList.map ρ) h
    | .builtin .append => match c.args.toList, c.argTypes.toList with
      | [s, x], [T, T2] => if T2 = T then appendV E (E.key + dst) T (ρ s) (ρ x) h else sAppendZ E.P (E.own.contains dst) (E.key + dst) T T2 (ρ s) (ρ x) h
      | _, _ => bad h
    | .value f => sCall E (ρ f) (c.args.toList.map ρ) (preZ E dst (ρ f) h)
    | _ => bad h
  | _ => bad h
def ev (st : St) : Operand → Bool × V
  | .tmp t => st.t t
  | .const v => (true, ofVal v)
  | .func f => (true, .fn f [])
  | .global g => (true, (Gls.G g).getD .top)
def ev2 (st : St) (x : Operand) : V := (ev st x).2
def allv (st : St) : List Operand → Prop
  | [] => True
  | x :: r => (ev st x).1 = true ∧ allv st r
def valid (st : St) : Op → Prop
  | .pick c a b => (ev st c).1 = true ∧ (ev2 st c = .bool true → (ev st a).1 = true) ∧ (ev2 st c = .bool false → (ev st b).1 = true)
  | .call c => allv st (match c.callee with | .value f => f :: c.args.toList | _ => c.args.toList)
  | op => allv st op.operands.toList
def upd (t : Nat → Bool × V) (d : Option Nat) (x : Bool × V) (k : Nat) : Bool × V :=
  match d with
  | some d => if k = d then x else t k
  | none => t k
def guardB (c : Bool) (v : V) (want : Bool) : Prop × Bool :=
  match c with
  | false => (True, false)
  | true => match v with
    | .bool b => (True, b == want)
    | _ => (False, false)
omit [Gls] in
theorem guardB_bool (c b want : Bool) : guardB c (.bool b) want = (True, c && (b == want)) := by cases c <;> rfl
omit [Gls] in
theorem guardB_off (v : V) (want : Bool) : guardB false v want = (True, false) := rfl
def guardV (ops : List Oper) (st : St) : Option (Nat × Bool) → Prop × Bool
  | none => (True, true)
  | some (j, want) =>
    match (ops[j]?).bind (·.dst) with
    | some d => guardB (st.t d).1 (st.t d).2 want
    | none => (False, false)
def dstOk (nt : Nat) : Option Nat → Prop
  | some d => d < nt
  | none => True
def hite (b : Bool) (h h' : Hp) : Hp := match b with | true => h | false => h'
def step (E : Env) (ops : List Oper) (o : Oper) (st : St) : Prop × St :=
  match guardV ops st o.guard with
  | (gc, g) => match sem E (o.dst.getD 0) o.op (ev2 st) st.h with
    | ⟨c, v, h⟩ => (gc ∧ dstOk E.nt o.dst ∧ (g = true → valid st o.op ∧ c), { t := upd st.t o.dst (g, v), h := hite g h st.h })
def runL (E : Env) (ops : List Oper) : List Oper → St → Prop × St
  | [], st => (True, st)
  | o :: l, st => match step E ops o st with
    | (c, st') => match runL E ops l st' with
      | (c', st'') => (c ∧ c', st'')
end Go.Sx
