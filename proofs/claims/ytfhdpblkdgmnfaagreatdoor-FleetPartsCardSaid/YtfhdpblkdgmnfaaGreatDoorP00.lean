/- A part of a proof; no conditions. -/
import Derived.WalkKit
set_option linter.unusedSimpArgs false
set_option linter.unusedVariables false
set_option linter.unusedSectionVars false
set_option maxRecDepth 100000
set_option maxHeartbeats 8000000
noncomputable section
section
namespace Go.Sx
open Go.RowKit
inductive V where
 | top
 | int (k:IntKind) (n:Int)
 | bool (b:Bool)
 | agg (cs:List V)
 | tup (vs:List V)
 | nil
 | nilp
 | nilf
 | sl (z:Nat) (els:List (List V))
 | ip (z:Nat) (els:List (List V)) (e j:Nat)
 | bsl (s i n:Nat)
 | bptr (s i n e j:Nat)
 | osl (s i n off len cap:Nat)
 | fn (f:Nat) (caps:List V)
 | yld (l:Nat)
 | emp
 | anyb
 deriving Inhabited
abbrev und:Value:=undef
inductive PV (w:World) (A:Nat→Prop):V→Value→Prop
 | top (v:Value):PV w A .top v
 | int (k:IntKind) (n:Int):PV w A (.int k n) (.int k n)
 | bool (b:Bool):PV w A (.bool b) (.bool b)
 | nil:PV w A .nil (.slice none 0 0)
 | nilp:PV w A .nilp (.pointer none)
 | nilf:PV w A .nilf .nilFunc
 | yld (l:Nat):PV w A (.yld l) (.func (.yield l) #[] #[])
 | emp (a:Addr):PV w A .emp (.slice (some a) 0 0)
 | anyb (b:Bool):PV w A .anyb (.bool b)
 | agg (cs:List V) (us:Array Value) (hl:us.size=cs.length) (h:∀i c,cs[i]?=some c→PV w A c (us.getD i und)):PV w A (.agg cs) (.agg us)
 | tup (cs:List V) (us:Array Value) (hl:us.size=cs.length) (h:∀i c,cs[i]?=some c→PV w A c (us.getD i und)):PV w A (.tup cs) (.tuple us)
 | fn (f:Nat) (cs:List V) (us:Array Value) (hl:us.size=cs.length) (h:∀i c,cs[i]?=some c→PV w A c (us.getD i und)):PV w A (.fn f cs) (.func (.func f) #[] us)
 | sl0 (z:Nat) (a:Option Addr) (cap:Nat):PV w A (.sl z []) (.slice a 0 cap)
 | sl (z:Nat) (els:List (List V)) (b off cap:Nat) (u:Nat→Nat→Value) (hcap:els.length≤cap) (hb:b<w.heap.size) (hA:¬ A b) (hz:∀row∈els,row.length=z)
   (hc:∀e j row c,els[e]?=some row→row[j]?=some c→w.cell? ⟨b,off+e * z+j,none⟩=some (u e j)∧(u e j).oneCell'=true)
   (h:∀e j row c,els[e]?=some row→row[j]?=some c→PV w A c (u e j)):PV w A (.sl z els) (.slice (some ⟨b,off,none⟩) els.length cap)
 | ip (z:Nat) (els:List (List V)) (e0 j0:Nat) (b off:Nat) (u:Nat→Nat→Value) (hb:b<w.heap.size) (hA:¬ A b) (hz:∀row∈els,row.length=z)
   (hc:∀e j row c,els[e]?=some row→row[j]?=some c→w.cell? ⟨b,off+e * z+j,none⟩=some (u e j)∧(u e j).oneCell'=true)
   (h:∀e j row c,els[e]?=some row→row[j]?=some c→PV w A c (u e j)):PV w A (.ip z els e0 j0) (.pointer (some ⟨b,off+e0 * z+j0,none⟩))
def Later (w:World) (A:Nat→Prop) (w':World) (A':Nat→Prop):Prop:=
 w.heap.size≤w'.heap.size∧∀b,b<w.heap.size→¬ A b→w'.heap[b]?=w.heap[b]?∧¬ A' b
theorem Later.refl (w:World) (A:Nat→Prop):Later w A w A:=⟨Nat.le_refl _,fun _ _ h=>⟨rfl,h⟩⟩
theorem Later.trans {w w' w'':World} {A A' A'':Nat→Prop} (h:Later w A w' A') (k:Later w' A' w'' A''):Later w A w'' A'':=
 ⟨Nat.le_trans h.1 k.1,fun b hb hA=>
  have h1:=h.2 b hb hA
  have h2:=k.2 b (Nat.lt_of_lt_of_le hb h.1) h1.2
  ⟨h2.1.trans h1.1,h2.2⟩⟩
theorem PV.mono {w w':World} {A A':Nat→Prop} (hL:Later w A w' A') {x:V} {v:Value} (h:PV w A x v):PV w' A' x v:=by
 induction h with
 | top v=>exact .top v
 | int k n=>exact .int k n
 | bool b=>exact .bool b
 | nil=>exact .nil
 | nilp=>exact .nilp
 | nilf=>exact .nilf
 | yld l=>exact .yld l
 | emp a=>exact .emp a
 | anyb b=>exact .anyb b
 | agg cs us hl _ ih=>exact .agg cs us hl ih
 | tup cs us hl _ ih=>exact .tup cs us hl ih
 | fn f cs us hl _ ih=>exact .fn f cs us hl ih
 | sl0 z a cap=>exact .sl0 z a cap
 | sl z els b off cap u hcap hb hA hz hc _ ih=>
  have h1:=hL.2 b hb hA
  refine .sl z els b off cap u hcap (Nat.lt_of_lt_of_le hb hL.1) h1.2 hz (fun e j row c he hj=>?_) ih
  rw [World.cell?_of_block (w:=w) h1.1]
  exact hc e j row c he hj
 | ip z els e0 j0 b off u hb hA hz hc _ ih=>
  have h1:=hL.2 b hb hA
  refine .ip z els e0 j0 b off u (Nat.lt_of_lt_of_le hb hL.1) h1.2 hz (fun e j row c he hj=>?_) ih
  rw [World.cell?_of_block (w:=w) h1.1]
  exact hc e j row c he hj
abbrev YS:Nat:=999999999
structure Hd where
 b:Nat
 z:Nat
 len:Nat
 v:Value
 o:Nat:=0
def Hd.cap (d:Hd):Nat:=match d.v with|.slice _ _ c=>c|_=>0
structure Refs where
 D:Nat→Nat→Hd
 N:Nat→Nat
def Xle (X X':Refs):Prop:=∀s i,i<X.N s→i<X'.N s∧(X'.D s i=X.D s i∨(X.D s i).len<(X'.D s i).len)
theorem Xle.refl (X:Refs):Xle X X:=fun _ _ h=>⟨h,.inl rfl⟩
theorem Xle.trans {X Y Z:Refs} (h:Xle X Y) (k:Xle Y Z):Xle X Z:=fun s i hi=>by
 obtain⟨h1,h2⟩:=h s i hi
 obtain⟨k1,k2⟩:=k s i h1
 refine⟨k1,?_⟩
 rcases h2 with h2|h2<;>rcases k2 with k2|k2
 ·exact .inl (k2.trans h2)
 ·exact .inr (by rw [←h2]; exact k2)
 ·exact .inr (by rw [k2]; exact h2)
 ·exact .inr (Nat.lt_trans h2 k2)
inductive RV (w:World) (A:Nat→Prop) (X:Refs):V→Value→Prop
 | pure {x:V} {v:Value} (h:PV w A x v):RV w A X x v
 | agg (cs:List V) (us:Array Value) (hl:us.size=cs.length) (h:∀i c,cs[i]?=some c→RV w A X c (us.getD i und)):RV w A X (.agg cs) (.agg us)
 | tup (cs:List V) (us:Array Value) (hl:us.size=cs.length) (h:∀i c,cs[i]?=some c→RV w A X c (us.getD i und)):RV w A X (.tup cs) (.tuple us)
 | fn (f:Nat) (cs:List V) (us:Array Value) (hl:us.size=cs.length) (h:∀i c,cs[i]?=some c→RV w A X c (us.getD i und)):RV w A X (.fn f cs) (.func (.func f) #[] us)
 | bsl (s i n:Nat) (a:Option Addr) (c:Nat) (hN:i<X.N s) (hn:n≤(X.D s i).len) (hv:n=(X.D s i).len→.slice a n c=(X.D s i).v):RV w A X (.bsl s i n) (.slice a n c)
 | bptr (s i n e j:Nat) (a:Addr) (hN:i<X.N s) (hn:n≤(X.D s i).len) (hv:n=(X.D s i).len→a=⟨(X.D s i).b,(X.D s i).o+e * (X.D s i).z+j,none⟩):RV w A X (.bptr s i n e j) (.pointer (some a))
 | osl (s i n off len cap:Nat) (a:Addr) (c:Nat) (hcc:cap≤c) (hN:i<X.N s) (hn:n≤(X.D s i).len) (hv:n=(X.D s i).len→a=⟨(X.D s i).b,(X.D s i).o+off * (X.D s i).z,none⟩∧off+c≤(X.D s i).cap):RV w A X (.osl s i n off len cap) (.slice (some a) len c)
theorem RV.mono {w w':World} {A A':Nat→Prop} {X X':Refs} (hL:Later w A w' A') (hX:Xle X X') {x:V} {v:Value} (h:RV w A X x v):RV w' A' X' x v:=by
 induction h with
 | pure h=>exact .pure (h.mono hL)
 | agg cs us hl _ ih=>exact .agg cs us hl ih
 | tup cs us hl _ ih=>exact .tup cs us hl ih
 | fn f cs us hl _ ih=>exact .fn f cs us hl ih
 | bsl s i n a c hN hn hv=>
  obtain⟨h1,h2⟩:=hX s i hN
  rcases h2 with h2|h2
  ·exact .bsl s i n a c h1 (by rw [h2]; exact hn) (by rw [h2]; exact hv)
  ·exact .bsl s i n a c h1 (by omega) (fun e=>by omega)
 | bptr s i n e j a hN hn hv=>
  obtain⟨h1,h2⟩:=hX s i hN
  rcases h2 with h2|h2
  ·exact .bptr s i n e j a h1 (by rw [h2]; exact hn) (by rw [h2]; exact hv)
  ·exact .bptr s i n e j a h1 (by omega) (fun e=>by omega)
 | osl s i n off len cap a c hcc hN hn hv=>
  obtain⟨h1,h2⟩:=hX s i hN
  rcases h2 with h2|h2
  ·exact .osl s i n off len cap a c hcc h1 (by rw [h2]; exact hn) (by rw [h2]; exact hv)
  ·exact .osl s i n off len cap a c hcc h1 (by omega) (fun e=>by omega)
structure Blk where
 z:Nat
 els:List (List V)
 ty:TypeId
 fz:Bool:=false
 cl:Bool:=true
structure Site where
 base:Nat
 blks:List Blk
 fl:Bool:=false
abbrev Hp:=Nat→Site
def hget (h:Hp) (s i:Nat):Option Blk:=if i<(h s).base then none else (h s).blks[i - (h s).base]?
def hset (h:Hp) (s i:Nat) (B:Blk) (s':Nat):Site:=if s'=s then {h s with blks:=(h s).blks.set (i - (h s).base) B}else h s'
def hnext (h:Hp) (s:Nat):Nat:=(h s).base+(h s).blks.length
def hpush (h:Hp) (s:Nat) (B:Blk) (s':Nat):Site:=if s'=s then {h s with blks:=(h s).blks++[B]}else h s'
theorem hget_push_new (h:Hp) (s:Nat) (B:Blk):hget (hpush h s B) s (hnext h s)=some B:=by
 simp [hget,hpush,hnext]
theorem hget_push_old (h:Hp) (s s' i:Nat) (B:Blk) (hne:s'=s→i≠hnext h s):hget (hpush h s B) s' i=hget h s' i:=by
 unfold hget hpush
 by_cases hs:s'=s
 ·subst hs
  simp only [if_true]
  by_cases hb:i<(h s').base
  ·simp [hb]
  ·have h2:=hne rfl
   simp only [hb,if_false]
   rw [List.getElem?_append]
   split
   ·rfl
   ·rename_i h3
    have:(h s').blks.length<i - (h s').base:=by simp only [hnext]at h2; omega
    rw [List.getElem?_eq_none (by simp; omega),List.getElem?_eq_none (by omega)]
 ·simp [hs]
theorem hget_lt {h:Hp} {s i:Nat} {B:Blk} (hg:hget h s i=some B):i<hnext h s:=by
 unfold hget at hg
 split at hg
 ·simp at hg
 ·have:=(List.getElem?_eq_some_iff.1 hg).1
  unfold hnext; omega
theorem hget_set_same {h:Hp} {s i:Nat} {B B':Blk} (hg:hget h s i=some B):hget (hset h s i B') s i=some B':=by
 unfold hget at hg
 split at hg
 ·simp at hg
 ·rename_i hb
  have:=(List.getElem?_eq_some_iff.1 hg).1
  simp [hget,hset,hb,this]
theorem hget_set_other (h:Hp) {s i s' i':Nat} (B':Blk) (hne:¬ (s'=s∧i'=i)) (hi:(h s).base≤i):hget (hset h s i B') s' i'=hget h s' i':=by
 unfold hget hset
 by_cases hs:s'=s
 ·subst hs
  simp only [if_true]
  by_cases hb:i'<(h s').base
  ·simp [hb]
  ·have:i'≠i:=fun e=>hne ⟨rfl,e⟩
   simp only [hb,if_false]
   rw [List.getElem?_set_ne (by omega)]
 ·simp [hs]
theorem hget_base {h:Hp} {s i:Nat} {B:Blk} (hg:hget h s i=some B):(h s).base≤i:=by
 unfold hget at hg
 split at hg
 ·simp at hg
 ·omega
theorem hnext_set (h:Hp) (s i s':Nat) (B:Blk):hnext (hset h s i B) s'=hnext h s':=by
 unfold hnext hset
 by_cases hs:s'=s
 ·subst hs; simp
 ·simp [hs]
theorem hnext_push (h:Hp) (s s':Nat) (B:Blk):hnext (hpush h s B) s'=hnext h s'+if s'=s then 1 else 0:=by
 unfold hnext hpush
 by_cases hs:s'=s
 ·subst hs; simp; omega
 ·simp [hs]
def hcut (h:Hp) (s i s':Nat):Site:=if s'=s then {h s with base:=max (h s).base (i+1),blks:=(h s).blks.drop (i+1 - (h s).base)}else h s'
theorem hget_cut (h:Hp) (s i s' i':Nat):hget (hcut h s i) s' i'=if s'=s∧i'≤i then none else hget h s' i':=by
 unfold hget hcut
 by_cases hs:s'=s
 ·subst hs
  simp only [if_true,true_and]
  by_cases hi:i'≤i
  ·rw [if_pos (by omega),if_pos hi]
  ·rw [if_neg hi]
   by_cases hb:i'<(h s').base
   ·rw [if_pos (by omega),if_pos hb]
   ·rw [if_neg (by omega),if_neg hb,List.getElem?_drop]
    congr 1; omega
 ·simp [hs]
theorem hnext_cut {h:Hp} {s i:Nat} (hi:i<hnext h s) (s':Nat):hnext (hcut h s i) s'=hnext h s':=by
 unfold hnext at hi
 unfold hnext hcut
 by_cases hs:s'=s
 ·subst hs; simp only [if_true,List.length_drop]; omega
 ·simp [hs]
structure Fr where
 w0:World
 A0:Nat→Prop
 X0:Refs
 M:Nat→Prop
structure BOK (F:Fr) (w:World) (A:Nat→Prop) (X:Refs) (s i:Nat) (B:Blk):Prop where
 hN:i<X.N s
 hz:(X.D s i).z=B.z
 hlen:(X.D s i).len=B.els.length
 rows:∀row∈B.els,row.length=B.z
 mem:((X.D s i).v=.slice none 0 0∧B.els=[])∨
  ∃arr cap,w.heap[(X.D s i).b]?=some (.cells arr B.ty (0,0))∧(X.D s i).v=.slice (some ⟨(X.D s i).b,(X.D s i).o,none⟩) B.els.length cap∧B.els.length≤cap∧cap≤maxLen∧
   (X.D s i).o+cap * B.z≤arr.size∧
   (∀e j row c,B.els[e]?=some row→row[j]?=some c→∃u,arr[(X.D s i).o+e * B.z+j]?=some u∧u.oneCell'=true∧RV w A X c u∧(B.cl=true→PV w A c u))∧
   (B.fz=true→¬ A (X.D s i).b)∧(B.fz=false→A (X.D s i).b∧(F.M (X.D s i).b∨F.w0.heap.size≤(X.D s i).b))
def Hd.real (d:Hd):Prop:=d.v≠.slice none 0 0
class Gls where
 G:Nat→Option V
variable [Gls]
def GOK (w:World) (A:Nat→Prop):Prop:=∀g v,Gls.G g=some v→PV w A v (.pointer (some ⟨g,0,none⟩))
theorem GOK.mono {w w':World} {A A':Nat→Prop} (h:GOK w A) (hL:Later w A w' A'):GOK w' A':=fun g v hg=>(h g v hg).mono hL
structure Inv (F:Fr) (w:World) (A:Nat→Prop) (X:Refs) (h:Hp):Prop where
 gl:GOK w A
 abd:∀b,A b→b<w.heap.size
 aold:∀b,b<F.w0.heap.size→A b→F.A0 b
 akeep:∀b,b<F.w0.heap.size→F.A0 b→¬ F.M b→A b
 os:w.os=F.w0.os
 tape:w.tape=F.w0.tape
 output:w.output=F.w0.output
 size:F.w0.heap.size≤w.heap.size
 same:∀b,b<F.w0.heap.size→¬ F.M b→w.heap[b]?=F.w0.heap[b]?
 xle:Xle F.X0 X
 nb:∀s,X.N s≤hnext h s
 blk:∀s i B,hget h s i=some B→BOK F w A X s i B
 inj:∀s i B s' i' B',hget h s i=some B→hget h s' i'=some B'→(X.D s i).real→(X.D s' i').real→(X.D s i).b=(X.D s' i').b→s=s'∧i=i'
end Go.Sx
end
section
namespace Go.Sx
open Go.RowKit
variable [Gls]
def ofVal1:Value→V
 | .int k n=>.int k n
 | .bool b=>.bool b
 | .slice none 0 0=>.nil
 | .pointer none=>.nilp
 | .nilFunc=>.nilf
 | _=>.top
def ofVal:Value→V
 | .agg cs=>.agg (cs.toList.map ofVal1)
 | v=>ofVal1 v
def zc (P:Program) (T:TypeId):List V:=
 match (P.info? T).bind (·.zero)with
 | some z=>z.cells.toList.map ofVal1
 | none=>[]
def isAg (P:Program) (T:TypeId):Bool:=
 match P.underlying T with
 | some (.struct _)|some (.array _ _)=>true
 | _=>false
def tyOk (P:Program) (T:TypeId):Bool:=(P.underlying T).isSome
def slEl (P:Program) (T:TypeId):Option TypeId:=
 match P.underlying T with
 | some (.slice e)=>some e
 | _=>none
def arEl (P:Program) (T:TypeId):Option (Nat × TypeId):=
 match P.underlying T with
 | some (.array n e)=>some (n,e)
 | _=>none
def fld (P:Program) (S:TypeId) (f:Nat):Option (Nat × TypeId):=
 match P.underlying S with
 | some (.struct fs)=>(fs[f]?).map fun x=>(x.offset,x.type)
 | _=>none
def V.cells:V→List V
 | .agg cs=>cs
 | v=>[v]
def V.cell1:V→Bool
 | .top|.agg _|.tup _=>false
 | _=>true
def V.refFree1:V→Bool
 | .bsl .. | .bptr .. | .osl ..=>false
 | .agg _|.tup _|.fn _ (_::_)=>false
 | _=>true
def V.refFree:V→Bool
 | .agg cs=>cs.all V.refFree1
 | .tup cs=>cs.all V.refFree1
 | .fn _ cs=>cs.all V.refFree1
 | v=>v.refFree1
def V.scal1:V→Bool
 | .int .. | .bool _|.nilp|.nilf|.nil=>true
 | _=>false
def V.scal:V→Bool
 | .tup cs=>cs.all V.scal1
 | .agg cs=>cs.all V.scal1
 | v=>v.scal1
def V.leaf:V→Bool
 | .agg _|.tup _=>false
 | .fn _ (_::_)=>false
 | _=>true
def V.argOk (x:V):Bool:=match x with|.agg cs=>cs.all V.leaf|.fn _ cs=>cs.all V.leaf|.tup _=>false|_=>true
structure PSpec where
 dom:Type
 enc:dom→List V
 dec:List V→dom
 pre:dom→Prop
 res:dom→V
structure Out where
 c:Prop
 v:V
 h:Hp
structure HSpec where
 go:List V→Hp→Out
inductive Spec where
 | pure (S:PSpec)
 | heap (S:HSpec)
 | iter (S:Nat→HSpec→HSpec)
structure Env where
 P:Program
 fn:Nat→Option Spec
 own:List Nat
 key:Nat
 nt:Nat
 frz:List (Nat × List Nat):=[]
 yl:Option (Nat × HSpec):=none
 cfz:List (Nat × List Nat):=[]
structure St where
 t:Nat→Bool × V
 h:Hp
def bad (h:Hp):Out:=⟨False,.top,h⟩
def sub0:V→V→Prop
 | _,.top=>True
 | .nil,.sl _ []=>True
 | .emp,.sl _ []=>True
 | x,y=>x=y
def subs0:List V→List V→Prop
 | [],[]=>True
 | x::xs,y::ys=>sub0 x y∧subs0 xs ys
 | _,_=>False
def sub1:V→V→Prop
 | .agg xs,.agg ys=>subs0 xs ys
 | x,y=>sub0 x y
def subs1:List V→List V→Prop
 | [],[]=>True
 | x::xs,y::ys=>sub1 x y∧subs1 xs ys
 | _,_=>False
def sub:V→V→Prop
 | .tup xs,.tup ys=>subs1 xs ys
 | x,y=>sub1 x y
def lendCs (g:V→Prop × V):List V→Prop × List V
 | []=>(True,[])
 | x::xs=>((x.leaf=true∧(g x).1)∧(lendCs g xs).1,(g x).2::(lendCs g xs).2)
def lendRs (g:V→Prop × V):List (List V)→Prop × List (List V)
 | []=>(True,[])
 | x::xs=>((lendCs g x).1∧(lendRs g xs).1,(lendCs g x).2::(lendRs g xs).2)
def lendB (g:V→Prop × V) (B:Blk):Prop × List (List V):=
 match B.cl with
 | true=>(True,B.els)
 | false=>lendRs g B.els
def lendN:Nat→Hp→V→Prop × V
 | 0,h,.bsl s i n=>match hget h s i with
  | some B=>(n=B.els.length∧B.cl=true,.sl B.z B.els)
  | none=>(False,.top)
 | 0,h,.osl s i n off len cap=>match hget h s i with
  | some B=>(n=B.els.length∧off+len≤B.els.length∧B.cl=true∧len≤cap,.sl B.z ((B.els.drop off).take len))
  | none=>(False,.top)
 | 0,h,.bptr s i n e j=>match hget h s i with
  | some B=>(n=B.els.length∧B.cl=true∧B.els≠[],.ip B.z B.els e j)
  | none=>(False,.top)
 | f+1,h,.bsl s i n=>match hget h s i with
  | some B=>(n=B.els.length∧(lendB (lendN f h) B).1,.sl B.z (lendB (lendN f h) B).2)
  | none=>(False,.top)
 | f+1,h,.osl s i n off len cap=>match hget h s i with
  | some B=>(n=B.els.length∧off+len≤B.els.length∧(lendB (lendN f h) B).1∧len≤cap,.sl B.z (((lendB (lendN f h) B).2.drop off).take len))
  | none=>(False,.top)
 | f+1,h,.bptr s i n e j=>match hget h s i with
  | some B=>(n=B.els.length∧(lendB (lendN f h) B).1∧B.els≠[],.ip B.z (lendB (lendN f h) B).2 e j)
  | none=>(False,.top)
 | _,_,v=>(True,v)
def lend1 (h:Hp) (v:V):Prop × V:=lendN 3 h v
def lends1 (h:Hp):List V→Prop × List V
 | []=>(True,[])
 | x::xs=>((lend1 h x).1∧(lends1 h xs).1,(lend1 h x).2::(lends1 h xs).2)
def lend (h:Hp):V→Prop × V
 | .agg cs=>((lends1 h cs).1,.agg (lends1 h cs).2)
 | .fn f cs=>((lends1 h cs).1,.fn f (lends1 h cs).2)
 | v=>lend1 h v
def lends (h:Hp):List V→Prop × List V
 | []=>(True,[])
 | x::xs=>((lend h x).1∧(lends h xs).1,(lend h x).2::(lends h xs).2)
def fzCs (g:V→Prop):List V→Prop
 | []=>True
 | x::xs=>g x∧fzCs g xs
def fzRs (g:V→Prop):List (List V)→Prop
 | []=>True
 | x::xs=>fzCs g x∧fzRs g xs
def V.at?:V→Option (Nat × Nat)
 | .bsl s i _|.osl s i _ _ _ _|.bptr s i _ _ _=>some (s,i)
 | _=>none
def fzN:Nat→Hp→V→Prop
 | 0,h,x=>match x.at? with
  | some (s,i)=>match hget h s i with
   | some B=>B.fz=true
   | none=>False
  | none=>True
 | f+1,h,x=>match x.at? with
  | some (s,i)=>match hget h s i with
   | some B=>B.fz=true∧(B.cl=true∨fzRs (fzN f h) B.els)
   | none=>False
  | none=>True
def fzA (h:Hp):V→Prop
 | .agg cs=>fzCs (fzN 3 h) cs
 | .fn _ cs=>fzCs (fzN 3 h) cs
 | v=>fzN 3 h v
def lkf:List (Nat × List Nat)→Nat→List Nat
 | [],_=>[]
 | (a,p)::r,id=>if id=a then p else lkf r id
def frzH (h:Hp) (s s':Nat):Site:=if s'=s then {h s with blks:=(h s).blks.map fun B=>{B with fz:=true}}else h s'
def frzHs:List Nat→Hp→Hp
 | [],h=>h
 | s::r,h=>frzHs r (frzH h s)
def callF (E:Env) (f:Nat) (args:List V) (h:Hp):Out:=
 match E.fn f with
 | some (.pure S)=>
  let l:=lends h args
  let d:=S.dec l.2
  ⟨args.all V.argOk=true∧l.1∧subs1 l.2 (S.enc d)∧S.pre d∧(args.all V.refFree=true∨(S.res d).scal=true∨fzCs (fzA h) args),S.res d,h⟩
 | some (.heap S)=>S.go args h
 | some (.iter S)=>match E.yl with
  | some (l,Y)=>⟨((h YS).blks=[]∧(h YS).fl=false)∧((S l Y).go args h).c,((S l Y).go args h).v,((S l Y).go args h).h⟩
  | none=>bad h
 | none=>bad h
def bitw (op:BinOp) (k:IntKind) (x y:Int):Int:=
 let a:=BitVec.ofInt k.bits x
 let b:=BitVec.ofInt k.bits y
 match op with
 | .and=>k.wrap (a &&& b).toNat
 | .or=>k.wrap (a ||| b).toNat
 | .xor=>k.wrap (a ^^^ b).toNat
 | _=>k.wrap (a &&& ~~~b).toNat
def isPtr (P:Program) (T:TypeId):Bool:=match P.underlying T with|some (.pointer _)=>true|_=>false
def isFn (P:Program) (T:TypeId):Bool:=match P.underlying T with|some (.func ..)=>true|_=>false
def isBool (P:Program) (T:TypeId):Bool:=match P.underlying T with|some .bool=>true|_=>false
def intK (P:Program) (T:TypeId):Option IntKind:=match P.underlying T with|some (.int k)=>some k|_=>none
def leafTs (P:Program) (T:TypeId):List TypeId:=
 match P.underlying T with
 | some (.array n e)=>List.replicate n e
 | some (.struct fs)=>fs.toList.map (·.type)
 | _=>[]
def scalT (P:Program) (T:TypeId):Bool:=match P.underlying T with|some (.int _)|some .bool=>true|_=>false
def flatEq (P:Program) (T:TypeId):Bool:=
 match P.underlying T with
 | some (.array _ e)=>scalT P e && P.cellsOf e == 1 && (P.info? e).isSome && !P.eqGuardType P.depth T
 | some (.struct fs)=>fs.toList.all (fun f=>f.name != "_" && scalT P f.type) && !P.stoodInHeld T && !P.eqGuardType P.depth T && fs.toList.map (·.offset) == List.range fs.size
 | _=>false
def eqTs (P:Program):List TypeId→List V→List V→Prop × Bool
 | [],[],[]=>(True,true)
 | t::ts,.int k m::a,.int k' n::b=>(((intK P t).isSome=true∧k=k')∧(eqTs P ts a b).1,(m == n) && (eqTs P ts a b).2)
 | t::ts,.bool p::a,.bool q::b=>(isBool P t=true∧(eqTs P ts a b).1,(p == q) && (eqTs P ts a b).2)
 | _,_,_=>(False,false)
def eqV (P:Program) (T:TypeId) (a b:V):Prop × Bool:=
 match a,b with
 | .agg xs,.agg ys=>(flatEq P T=true∧(eqTs P (leafTs P T) xs ys).1,(eqTs P (leafTs P T) xs ys).2)
 | .bool p,.bool q=>(isBool P T=true,p == q)
 | .nilp,.nilp=>(isPtr P T=true,true)
 | .nilp,.bptr .. | .bptr ..,.nilp|.nilp,.ip .. | .ip ..,.nilp=>(isPtr P T=true,false)
 | .nil,.nil=>((slEl P T).isSome=true,true)
 | .sl _ els,.nil|.nil,.sl _ els=>((slEl P T).isSome=true∧els≠[],false)
 | .osl ..,.nil|.nil,.osl ..=>((slEl P T).isSome=true,false)
 | .emp,.nil|.nil,.emp=>((slEl P T).isSome=true,false)
 | .nilf,.nilf=>(isFn P T=true,true)
 | .nilf,.fn .. | .fn ..,.nilf=>(isFn P T=true,false)
 | _,_=>(False,false)
def shlV (k:IntKind) (m n:Int):Int:=k.wrap (m * 2 ^ (min n.toNat k.bits))
def shrV (k:IntKind) (m n:Int):Int:=m.fdiv (2 ^ (min n.toNat k.bits))
def unkE (a b:V):Bool:=
 match a,b with
 | .sl _ els,.nil|.nil,.sl _ els=>els.isEmpty
 | _,_=>false
def binV (P:Program) (op:BinOp) (T:TypeId) (a b:V):Prop × V:=
 match a,b with
 | .int k m,.int k' n=>
  match op with
  | .add=>(k=k',.int k (k.wrap (m+n)))
  | .sub=>(k=k',.int k (k.wrap (m - n)))
  | .mul=>(k=k',.int k (k.wrap (m * n)))
  | .quo=>(k=k'∧n≠0,.int k (k.wrap (m.tdiv n)))
  | .rem=>(k=k'∧n≠0,.int k (m.tmod n))
  | .shl=>(0≤n,.int k (shlV k m n))
  | .shr=>(0≤n,.int k (shrV k m n))
  | .and=>(k=k',.int k (bitw .and k m n))
  | .or=>(k=k',.int k (bitw .or k m n))
  | .xor=>(k=k',.int k (bitw .xor k m n))
  | .andNot=>(k=k',.int k (bitw .andNot k m n))
  | .eql=>(k=k',.bool (m == n))
  | .neq=>(k=k',.bool (m != n))
  | .lss=>(k=k',.bool (decide (m<n)))
  | .leq=>(k=k',.bool (decide (m≤n)))
  | .gtr=>(k=k',.bool (decide (m > n)))
  | .geq=>(k=k',.bool (decide (m≥n)))
 | _,_=>
  match op with
  | .eql=>if unkE a b=true then ((slEl P T).isSome=true,.anyb)else ((eqV P T a b).1,.bool (eqV P T a b).2)
  | .neq=>if unkE a b=true then ((slEl P T).isSome=true,.anyb)else ((eqV P T a b).1,.bool (!(eqV P T a b).2))
  | _=>(False,.top)
def vite (b:Bool) (x y:V):V:=
 match x,y with
 | .bool p,.bool q=>.bool (if b then p else q)
 | .int k m,.int k' n=>if k=k' then .int k (if b then m else n)else (if b then .int k m else .int k' n)
 | x,y=>if b then x else y
def splice (row:List V) (j:Nat) (cs:List V):List V:=row.take j++cs++row.drop (j+cs.length)
def loadR (P:Program) (T:TypeId) (row:List V) (j:Nat):V:=
 if isAg P T then .agg ((row.drop j).take (P.cellsOf T))else row.getD j .top
def fills (place:Nat→Option (Nat × Nat)):List V→List (Nat × V)→Prop × List V
 | cells,[]=>(True,cells)
 | cells,(i,v)::rest=>
  match place i with
  | none=>(False,cells)
  | some (off,size)=>
   let r:=fills place (splice cells off v.cells) rest
   (v.cells.length=size∧off+size≤cells.length∧v.cells.all V.cell1=true∧r.1,r.2)
def fillRows (size:Nat):List (List V)→List (Nat × V)→Prop × List (List V)
 | rows,[]=>(True,rows)
 | rows,(i,v)::rest=>
  let r:=fillRows size (rows.set i v.cells) rest
  (v.cells.length=size∧i<rows.length∧v.cells.all V.cell1=true∧r.1,r.2)
def V.len:V→Option Nat
 | .nil=>some 0
 | .sl _ els=>some els.length
 | .bsl _ _ n=>some n
 | .osl _ _ _ _ len _=>some len
 | .emp=>some 0
 | _=>none
def asI:V→Option Int
 | .int _ n=>some n
 | _=>none
def optI (ρ:Operand→V):Option Operand→Option (Option Int)
 | none=>some none
 | some x=>(asI (ρ x)).map some
def foldMax (k:IntKind) (isMax:Bool):Int→List V→Prop × Int
 | m,[]=>(True,m)
 | m,.int k' n::r=>let x:=foldMax k isMax (if isMax then (if n > m then n else m)else (if n<m then n else m)) r; (k=k'∧x.1,x.2)
 | m,_::_=>(False,m)
def appendV (E:Env) (key:Nat) (T:TypeId) (s x:V) (h:Hp):Out:=
 match slEl E.P T with
 | none=>bad h
 | some e=>
  let z:=E.P.cellsOf e
  let src:Prop × List (List V) × Bool:=match x with
   | .nil=>(True,[],true)
   | .sl z' els=>(z'=z,els,true)
   | .bsl s' i' n'=>match hget h s' i' with
    | some B=>(B.z=z∧n'=B.els.length,B.els,B.cl)
    | none=>(False,[],true)
   | .osl s' i' n' off len _=>match hget h s' i' with
    | some B=>(B.z=z∧n'=B.els.length∧off+len≤B.els.length,(B.els.drop off).take len,B.cl)
    | none=>(False,[],true)
   | _=>(False,[],true)
  match s with
  | .nil=>
   ⟨src.1∧0<z∧(zc E.P e).length=z∧0<E.P.bytesOf e∧(src.2.1.length) * E.P.bytesOf e≤140737488355328,.bsl key (hnext h key) src.2.1.length,hpush h key {z:=z,els:=src.2.1,ty:=e,cl:=src.2.2}⟩
  | .bsl s0 i0 n0=>
   match hget h s0 i0 with
   | none=>bad h
   | some B=>⟨src.1∧0<z∧(zc E.P e).length=z∧0<E.P.bytesOf e∧B.z=z∧B.ty=e∧B.fz=false∧n0=B.els.length∧(B.els.length+src.2.1.length) * E.P.bytesOf e≤140737488355328,
     .bsl s0 i0 (B.els.length+src.2.1.length),hset h s0 i0 {B with els:=B.els++src.2.1,cl:=B.cl && src.2.2}⟩
  | .osl s0 i0 n0 off len cap=>
   match hget h s0 i0 with
   | none=>bad h
   | some B=>⟨src.1∧0<z∧B.z=z∧(zc E.P e).length=z∧B.ty=e∧B.fz=false∧n0=B.els.length∧off=0∧B.els≠[]∧len+src.2.1.length≤cap∧cap≤B.els.length,
     .osl s0 i0 n0 0 (len+src.2.1.length) cap,hset h s0 i0 {B with els:=B.els.take len++src.2.1++B.els.drop (len+src.2.1.length),cl:=B.cl && src.2.2}⟩
  | .emp=>if src.2.1=[]then ⟨src.1∧0<z∧(zc E.P e).length=z,.emp,h⟩else
   ⟨src.1∧0<z∧(zc E.P e).length=z∧0<E.P.bytesOf e∧(src.2.1.length) * E.P.bytesOf e≤140737488355328,.osl key (hnext h key) src.2.1.length 0 src.2.1.length src.2.1.length,hpush h key {z:=z,els:=src.2.1,ty:=e,cl:=src.2.2}⟩
  | _=>bad h
def sliceV (P:Program) (T:TypeId) (x:V) (lo hi mx:Option (Option Int)) (h:Hp):Prop × V:=
 match lo,hi,mx with
 | some lo,some hi,some none=>
  let l:=lo.getD 0
  match x with
  | .nil=>(slEl P T≠none∧l=0∧hi.getD 0=0∧0<((slEl P T).map P.cellsOf).getD 0,.nil)
  | .sl z els=>(slEl P T≠none∧(slEl P T).map P.cellsOf=some z∧0≤l∧l≤hi.getD els.length∧hi.getD els.length≤els.length∧0<z,.sl z ((els.drop l.toNat).take ((hi.getD els.length).toNat - l.toNat)))
  | .ip z els e j=>match arEl P T with
   | some (n,el)=>(P.cellsOf el=1∧0≤l∧l≤hi.getD n∧hi.getD n≤n∧e<els.length∧j+n≤z,.sl 1 (((((els.getD e []).drop j).drop l.toNat).take ((hi.getD n).toNat - l.toNat)).map fun c=>[c]))
   | none=>(False,.top)
  | .bptr s i n0 e j=>match arEl P T,hget h s i with
   | some (n,el),some B=>(B.fz=true∧B.cl=true∧n0=B.els.length∧P.cellsOf el=1∧0≤l∧l≤hi.getD n∧hi.getD n≤n∧e<B.els.length∧j+n≤B.z,.sl 1 (((((B.els.getD e []).drop j).drop l.toNat).take ((hi.getD n).toNat - l.toNat)).map fun c=>[c]))
   | _,_=>(False,.top)
  | .bsl s i n=>match hget h s i with
   | some B=>match B.fz with
    | true=>(slEl P T≠none∧(slEl P T).map P.cellsOf=some B.z∧n=B.els.length∧0<n∧0≤l∧l≤hi.getD n∧hi.getD n≤n∧B.cl=true∧0<B.z,.sl B.z ((B.els.drop l.toNat).take ((hi.getD n).toNat - l.toNat)))
    | false=>(slEl P T≠none∧(slEl P T).map P.cellsOf=some B.z∧n=B.els.length∧0≤l∧l≤hi.getD n∧hi.getD n≤n∧l<n∧0<B.z,.osl s i n l.toNat ((hi.getD n).toNat - l.toNat) (n - l.toNat))
   | none=>(False,.top)
  | .osl s i n off len cap=>((slEl P T≠none∧0<((slEl P T).map P.cellsOf).getD 0∧0≤l∧l≤hi.getD len∧hi.getD len≤cap∧len≤cap)∧(l=0∨(l<cap∧match hget h s i with|some B=>(slEl P T).map P.cellsOf=some B.z|none=>False)),.osl s i n (off+l.toNat) ((hi.getD len).toNat - l.toNat) (cap - l.toNat))
  | _=>(False,.top)
 | some lo,some (some hi),some (some m)=>
  match x with
  | .bsl s i n=>match hget h s i with
   | some B=>(slEl P T≠none∧0<((slEl P T).map P.cellsOf).getD 0∧n=B.els.length∧0≤lo.getD 0∧lo.getD 0≤hi∧hi≤m∧m≤n,.top)
   | none=>(False,.top)
  | .osl _ _ _ _ _ cap=>(slEl P T≠none∧0<((slEl P T).map P.cellsOf).getD 0∧0≤lo.getD 0∧lo.getD 0≤hi∧hi≤m∧m≤cap,.top)
  | _=>(False,.top)
 | _,_,_=>(False,.top)
def sCut (P:Program) (key:Nat) (T:TypeId) (x:V) (lo hi mx:Option (Option Int)) (h:Hp):Out:=
 match lo,hi,mx,x,slEl P T with
 | some lo,some hi,some none,.bsl s i n,some e=>
  match hget h s i with
  | some B=>⟨B.z=P.cellsOf e∧0<B.z∧n=B.els.length∧B.fz=false∧0≤lo.getD 0∧lo.getD 0≤hi.getD n∧hi.getD n≤n,.bsl key (hnext h key) ((hi.getD n).toNat - (lo.getD 0).toNat),
    hpush (hcut h s i) key {B with els:=(B.els.drop (lo.getD 0).toNat).take ((hi.getD n).toNat - (lo.getD 0).toNat)}⟩
  | none=>bad h
 | _,_,_,_,_=>bad h
def takeV (k:Nat):V→V
 | .sl z els=>.sl z (els.take k)
 | .osl s i n off len cap=>.osl s i n off (min k len) cap
 | v=>v
def srcB (h:Hp) (z:Nat) (x:V):Prop × List (List V) × Bool:=
 match x with
 | .nil=>(True,[],true)
 | .sl z' els=>(z'=z,els,true)
 | .bsl s' i' n'=>match hget h s' i' with
  | some B=>(B.z=z∧n'=B.els.length,B.els,B.cl)
  | none=>(False,[],true)
 | .osl s' i' n' off len _=>match hget h s' i' with
  | some B=>(B.z=z∧n'=B.els.length∧off+len≤B.els.length,(B.els.drop off).take len,B.cl)
  | none=>(False,[],true)
 | _=>(False,[],true)
def sCopy (P:Program) (T:TypeId) (d x:V) (h:Hp):Out:=
 match slEl P T,d,x.len with
 | some e,.osl s0 i0 n0 off len cap,some m=>
  match hget h s0 i0 with
  | some B=>⟨(srcB h B.z (takeV (min m len) x)).1∧(srcB h B.z (takeV (min m len) x)).2.1.length=min m len∧B.z=P.cellsOf e∧0<B.z∧(zc P e).length=P.cellsOf e∧B.ty=e∧B.fz=false∧n0=B.els.length∧B.els≠[]∧off+len≤B.els.length,.int .i64 (min m len:Nat),
    hset h s0 i0 {B with els:=B.els.take off++(srcB h B.z (takeV (min m len) x)).2.1++B.els.drop (off+min m len),cl:=B.cl && (srcB h B.z (takeV (min m len) x)).2.2}⟩
  | none=>bad h
 | _,_,_=>bad h
def sClear (P:Program) (T:TypeId) (x:V) (h:Hp):Out:=
 match slEl P T,x with
 | some e,.osl s i n off len _=>
  match hget h s i with
  | some B=>⟨B.z=P.cellsOf e∧0<B.z∧(zc P e).length=P.cellsOf e∧(zc P e).all V.cell1=true∧B.fz=false∧n=B.els.length∧B.els≠[]∧off+len≤B.els.length∧0<len,.tup [],
    hset h s i {B with els:=B.els.take off++List.replicate len (zc P e)++B.els.drop (off+len)}⟩
  | none=>bad h
 | _,_=>bad h
def sAlloc (P:Program) (key:Nat) (T:TypeId) (h:Hp):Out:=
 ⟨(zc P T).length=P.cellsOf T∧0<P.cellsOf T∧(zc P T).all V.cell1=true,.bptr key (hnext h key) 1 0 0,hpush h key {z:=P.cellsOf T,els:=[zc P T],ty:=T}⟩
def sBox (P:Program) (key:Nat) (T:TypeId) (x:V) (h:Hp):Out:=
 ⟨x.cells.length=P.cellsOf T∧x.cells.all V.cell1=true,.bptr key (hnext h key) 1 0 0,hpush h key {z:=P.cellsOf T,els:=[x.cells],ty:=T,cl:=x.cells.all V.refFree}⟩
def fldsOk (P:Program) (T:TypeId):Bool:=
 match P.underlying T with
 | some (.struct fs)=>fs.toList.all fun f=>decide (0<P.cellsOf f.type)
 | _=>true
def isSt (P:Program) (T:TypeId):Bool:=match P.underlying T with|some (.struct _)=>true|_=>false
def sBuild (P:Program) (T:TypeId) (parts:List (Nat × V)) (h:Hp):Out:=
 match isSt P T,arEl P T with
 | true,_=>
  match fills (fun i=>(fld P T i).map fun p=>(p.1,P.cellsOf p.2)) (zc P T) parts with
  | (c,r)=>⟨(zc P T).length=P.cellsOf T∧0<P.cellsOf T∧(zc P T).all V.cell1=true∧fldsOk P T=true∧c,.agg r,h⟩
 | false,some (_,e)=>
  match fills (fun i=>some (i * P.cellsOf e,P.cellsOf e)) (zc P T) parts with
  | (c,r)=>⟨(zc P T).length=P.cellsOf T∧0<P.cellsOf T∧(zc P T).all V.cell1=true∧0<P.cellsOf e∧c,.agg r,h⟩
 | _,_=>bad h
def sBuildSlice (P:Program) (own:Bool) (key:Nat) (T:TypeId) (n:Nat) (parts:List (Nat × V)) (h:Hp):Out:=
 match slEl P T with
 | some e=>
  match fillRows (P.cellsOf e) (List.replicate n (zc P e)) parts with
  | (c,r)=>
   if own then ⟨((zc P e).length=P.cellsOf e∧0<P.cellsOf e∧n * P.cellsOf e≤1048576∧(zc P e).all V.cell1=true∧c),.bsl key (hnext h key) n,hpush h key {z:=P.cellsOf e,els:=r,ty:=e,cl:=r.all fun row=>row.all V.refFree}⟩
   else ⟨((zc P e).length=P.cellsOf e∧0<P.cellsOf e∧n * P.cellsOf e≤1048576∧(zc P e).all V.cell1=true∧c)∧(r.all fun row=>row.all V.refFree)=true,.sl (P.cellsOf e) r,h⟩
 | none=>bad h
def sBuildE (P:Program) (T:TypeId) (n:Nat) (parts:List (Nat × V)) (h:Hp):Out:=
 match slEl P T,n,parts with
 | some e,0,[]=>⟨0<P.cellsOf e∧(zc P e).length=P.cellsOf e,.emp,h⟩
 | _,_,_=>bad h
omit [Gls]in
theorem sBuildE_h (P:Program) (T:TypeId) (n:Nat) (parts:List (Nat × V)) (h:Hp):(sBuildE P T n parts h).h=h:=by
 unfold sBuildE; split<;>rfl
omit [Gls]in
theorem sBuildE_free (P:Program) (T:TypeId) (n:Nat) (parts:List (Nat × V)) (h h':Hp):sBuildE P T n parts h'={sBuildE P T n parts h with h:=h'}:=by
 unfold sBuildE; split<;>rfl
def sLoad (P:Program) (T:TypeId) (a:V) (h:Hp):Out:=
 match a with
 | .ip z els e j=>⟨e<els.length∧j+P.cellsOf T≤z∧(isAg P T=false→P.cellsOf T=1)∧tyOk P T=true∧0<P.cellsOf T,loadR P T (els.getD e []) j,h⟩
 | .bptr s i n e j=>match hget h s i with
  | some B=>⟨n=B.els.length∧e<B.els.length∧j+P.cellsOf T≤B.z∧(isAg P T=false→P.cellsOf T=1)∧tyOk P T=true∧0<P.cellsOf T,loadR P T (B.els.getD e []) j,h⟩
  | none=>bad h
 | _=>bad h
def sStore (P:Program) (T:TypeId) (a x:V) (h:Hp):Out:=
 match a with
 | .bptr s i n e j=>match hget h s i with
  | some B=>⟨n=B.els.length∧e<B.els.length∧j+P.cellsOf T≤B.z∧0<P.cellsOf T∧B.fz=false∧x.cells.length=P.cellsOf T∧x.cells.all V.cell1=true,.top,
    hset h s i {B with els:=B.els.set e (splice (B.els.getD e []) j x.cells),cl:=B.cl && x.cells.all V.refFree}⟩
  | none=>bad h
 | _=>bad h
def sUn (op:UnOp) (x:V) (h:Hp):Out:=
 match op,x with
 | .not,.bool b=>⟨True,.bool !b,h⟩
 | .neg,.int k n=>⟨True,.int k (k.wrap (0 - n)),h⟩
 | _,_=>bad h
def sConv (P:Program) (S D:TypeId) (x:V) (h:Hp):Out:=
 match x,intK P S,intK P D with
 | .int _ n,some _,some k=>⟨True,.int k (k.wrap n),h⟩
 | _,_,_=>bad h
def sMakeSlice (P:Program) (own:Bool) (key:Nat) (T:TypeId) (l c:V) (h:Hp):Out:=
 match slEl P T,l,c with
 | some e,.int _ n,.int _ m=>
  if own then
   ⟨0≤n∧n≤m∧(zc P e).length=P.cellsOf e∧0<P.cellsOf e∧(zc P e).all V.cell1=true∧m * P.bytesOf e≤140737488355328∧m≤9223372036854775807,.osl key (hnext h key) m.toNat 0 n.toNat m.toNat,
    hpush h key {z:=P.cellsOf e,els:=List.replicate m.toNat (zc P e),ty:=e}⟩
  else
   ⟨0≤n∧n≤m∧(zc P e).length=P.cellsOf e∧0<P.cellsOf e∧(zc P e).all V.cell1=true∧m * P.bytesOf e≤140737488355328∧m≤9223372036854775807,.bsl key (hnext h key) n.toNat,
    hpush h key {z:=P.cellsOf e,els:=List.replicate n.toNat (zc P e),ty:=e}⟩
 | _,_,_=>bad h
def sAppendZ (P:Program) (own:Bool) (key:Nat) (T T2:TypeId) (s x:V) (h:Hp):Out:=
 match slEl P T,intK P T2,s,x with
 | some e,some _,.nil,.int _ m=>
  ⟨own=true∧0<m∧(zc P e).length=P.cellsOf e∧0<P.cellsOf e∧(zc P e).all V.cell1=true∧m * P.bytesOf e≤140737488355328∧m≤9223372036854775807,.osl key (hnext h key) m.toNat 0 m.toNat m.toNat,
   hpush h key {z:=P.cellsOf e,els:=List.replicate m.toNat (zc P e),ty:=e}⟩
 | _,_,_,_=>bad h
def sCap (P:Program) (T:TypeId) (x:V) (h:Hp):Out:=
 match x with
 | .nil=>⟨(slEl P T).isSome=true,.int .i64 0,h⟩
 | _=>bad h
def sFieldAddr (P:Program) (S:TypeId) (x:V) (f:Nat) (h:Hp):Out:=
 match x,fld P S f with
 | .ip z els e j,some (o,ft)=>⟨0<P.cellsOf ft,.ip z els e (j+o),h⟩
 | .bptr s i n e j,some (o,ft)=>⟨0<P.cellsOf ft,.bptr s i n e (j+o),h⟩
 | _,_=>bad h
def sField (P:Program) (S:TypeId) (x:V) (f:Nat) (h:Hp):Out:=
 match x,fld P S f with
 | .agg cs,some (o,ft)=>⟨o+P.cellsOf ft≤cs.length∧0<P.cellsOf ft∧(isAg P ft=false→P.cellsOf ft=1)∧tyOk P ft=true,loadR P ft cs o,h⟩
 | _,_=>bad h
def sIndexAddr (P:Program) (T:TypeId) (x:V) (ix:V) (h:Hp):Out:=
 match ix with
 | .int _ n=>match x,slEl P T,arEl P T with
  | .sl z els,some e,_=>⟨z=P.cellsOf e∧0<z∧0≤n∧n<els.length,.ip z els n.toNat 0,h⟩
  | .bsl s i m,some e,_=>match hget h s i with
   | some B=>⟨B.z=P.cellsOf e∧0<B.z∧m=B.els.length∧0≤n∧n<m,.bptr s i m n.toNat 0,h⟩
   | none=>bad h
  | .osl s i m off len _,some e,_=>match hget h s i with
   | some B=>⟨B.z=P.cellsOf e∧0<B.z∧m=B.els.length∧0≤n∧n<len,.bptr s i m (off+n.toNat) 0,h⟩
   | none=>bad h
  | .ip z els e0 j,_,some (len,e)=>⟨0≤n∧n<len∧0<P.cellsOf e,.ip z els e0 (j+n.toNat * P.cellsOf e),h⟩
  | .bptr s i m e0 j,_,some (len,e)=>⟨0≤n∧n<len∧0<P.cellsOf e,.bptr s i m e0 (j+n.toNat * P.cellsOf e),h⟩
  | _,_,_=>bad h
 | _=>bad h
def sIndex (P:Program) (T:TypeId) (x:V) (ix:V) (h:Hp):Out:=
 match ix,x,arEl P T with
 | .int _ n,.agg cs,some (len,e)=>⟨0≤n∧n<len∧cs.length=len * P.cellsOf e∧0<P.cellsOf e∧(isAg P e=false→P.cellsOf e=1)∧tyOk P e=true,loadR P e cs (n.toNat * P.cellsOf e),h⟩
 | _,_,_=>bad h
def sLen (P:Program) (T:TypeId) (x:V) (h:Hp):Out:=
 match x.len with
 | some n=>⟨(slEl P T).isSome=true,.int .i64 n,h⟩
 | none=>bad h
def sMax (isMax:Bool) (xs:List V) (h:Hp):Out:=
 match xs with
 | .int k m::r=>⟨(foldMax k isMax m r).1,.int k (foldMax k isMax m r).2,h⟩
 | _=>bad h
def sCall (E:Env) (f:V) (args:List V) (h:Hp):Out:=
 match f with
 | .fn g caps=>callF E g (args++caps) h
 | .yld l=>match E.yl with
  | some (l',Y)=>if l=l' then Y.go args h else bad h
  | none=>bad h
 | _=>bad h
def preZ (E:Env) (dst:Nat) (f:V) (h:Hp):Hp:=
 match f with
 | .fn g _=>match E.fn g with
  | some (.pure _)=>frzHs (lkf E.cfz dst) h
  | _=>h
 | _=>h
def sExtract (x:V) (ix:Nat) (h:Hp):Out:=
 match x with
 | .tup vs=>⟨ix<vs.length,vs.getD ix .top,h⟩
 | _=>bad h
def sPick (c a b:V) (h:Hp):Out:=
 match c with
 | .bool t=>⟨True,vite t a b,h⟩
 | _=>bad h
def sNil (x:V) (h:Hp):Out:=
 match x with
 | .bptr .. | .ip ..=>⟨True,x,h⟩
 | _=>bad h
def sem (E:Env) (dst:Nat) (op:Op) (ρ:Operand→V) (h:Hp):Out:=
 match op with
 | .move x|.assign x=>⟨True,ρ x,h⟩
 | .pick c a b=>sPick (ρ c) (ρ a) (ρ b) h
 | .alloc T=>sAlloc E.P (E.key+dst) T h
 | .box T x=>sBox E.P (E.key+dst) T (ρ x) h
 | .build T parts=>sBuild E.P T (parts.toList.map fun p=>(p.1,ρ p.2)) h
 | .buildSlice T n parts=>if E.own.contains (dst+500000)then sBuildE E.P T n (parts.toList.map fun p=>(p.1,ρ p.2)) h else sBuildSlice E.P (E.own.contains dst) (E.key+dst) T n (parts.toList.map fun p=>(p.1,ρ p.2)) h
 | .load T a=>sLoad E.P T (ρ a) h
 | .store T a x=>sStore E.P T (ρ a) (ρ x) h
 | .nilCheck x=>sNil (ρ x) h
 | .binOp op T x y _=>match binV E.P op T (ρ x) (ρ y)with|(c,v)=>⟨c,v,h⟩
 | .unOp op _ x=>sUn op (ρ x) h
 | .convert S D x=>sConv E.P S D (ρ x) h
 | .makeFunc (.func f) first caps=>if first.isEmpty then ⟨True,.fn f (caps.toList.map ρ),h⟩else bad h
 | .makeSlice T l c=>sMakeSlice E.P (E.own.contains dst) (E.key+dst) T (ρ l) (ρ c) h
 | .slice T x lo hi mx=>if E.own.contains dst then sCut E.P (E.key+dst) T (ρ x) (optI ρ lo) (optI ρ hi) (optI ρ mx) h else match sliceV E.P T (ρ x) (optI ρ lo) (optI ρ hi) (optI ρ mx) h with|(c,v)=>⟨c,v,h⟩
 | .fieldAddr S x f=>sFieldAddr E.P S (ρ x) f h
 | .field S x f=>sField E.P S (ρ x) f h
 | .indexAddr T x ix=>sIndexAddr E.P T (ρ x) (ρ ix) h
 | .index T x ix=>sIndex E.P T (ρ x) (ρ ix) h
 | .extract x ix=>sExtract (ρ x) ix h
 | .call c=>match c.callee with
  | .builtin .len=>match c.args.toList,c.argTypes.toList with
   | [x],[T]=>sLen E.P T (ρ x) h
   | _,_=>bad h
  | .builtin .cap=>match c.args.toList,c.argTypes.toList with
   | [x],[T]=>sCap E.P T (ρ x) h
   | _,_=>bad h
  | .builtin .clear=>match c.args.toList,c.argTypes.toList with
   | [x],[T]=>sClear E.P T (ρ x) h
   | _,_=>bad h
  | .builtin .copy=>match c.args.toList,c.argTypes.toList with
   | [d,x],[T,_]=>sCopy E.P T (ρ d) (ρ x) h
   | _,_=>bad h
  | .builtin .max=>sMax true (c.args.toList.map ρ) h
  | .builtin .min=>sMax false (c.args.toList.map ρ) h
  | .builtin .append=>match c.args.toList,c.argTypes.toList with
   | [s,x],[T,T2]=>if T2=T then appendV E (E.key+dst) T (ρ s) (ρ x) h else sAppendZ E.P (E.own.contains dst) (E.key+dst) T T2 (ρ s) (ρ x) h
   | _,_=>bad h
  | .value f=>sCall E (ρ f) (c.args.toList.map ρ) (preZ E dst (ρ f) h)
  | _=>bad h
 | _=>bad h
def ev (st:St):Operand→Bool × V
 | .tmp t=>st.t t
 | .const v=>(true,ofVal v)
 | .func f=>(true,.fn f [])
 | .global g=>(true,(Gls.G g).getD .top)
def ev2 (st:St) (x:Operand):V:=(ev st x).2
def allv (st:St):List Operand→Prop
 | []=>True
 | x::r=>(ev st x).1=true∧allv st r
def valid (st:St):Op→Prop
 | .pick c a b=>(ev st c).1=true∧(ev2 st c=.bool true→(ev st a).1=true)∧(ev2 st c=.bool false→(ev st b).1=true)
 | .call c=>allv st (match c.callee with|.value f=>f::c.args.toList|_=>c.args.toList)
 | op=>allv st op.operands.toList
def upd (t:Nat→Bool × V) (d:Option Nat) (x:Bool × V) (k:Nat):Bool × V:=
 match d with
 | some d=>if k=d then x else t k
 | none=>t k
def guardB (c:Bool) (v:V) (want:Bool):Prop × Bool:=
 match c with
 | false=>(True,false)
 | true=>match v with
  | .bool b=>(True,b == want)
  | _=>(False,false)
omit [Gls]in
theorem guardB_bool (c b want:Bool):guardB c (.bool b) want=(True,c && (b == want)):=by cases c<;>rfl
omit [Gls]in
theorem guardB_off (v:V) (want:Bool):guardB false v want=(True,false):=rfl
def guardV (ops:List Oper) (st:St):Option (Nat × Bool)→Prop × Bool
 | none=>(True,true)
 | some (j,want)=>
  match (ops[j]?).bind (·.dst)with
  | some d=>guardB (st.t d).1 (st.t d).2 want
  | none=>(False,false)
def dstOk (nt:Nat):Option Nat→Prop
 | some d=>d<nt
 | none=>True
def hite (b:Bool) (h h':Hp):Hp:=match b with|true=>h|false=>h'
def step (E:Env) (ops:List Oper) (o:Oper) (st:St):Prop × St:=
 match guardV ops st o.guard with
 | (gc,g)=>match sem E (o.dst.getD 0) o.op (ev2 st) st.h with
  | ⟨c,v,h⟩=>(gc∧dstOk E.nt o.dst∧(g=true→valid st o.op∧c),{t:=upd st.t o.dst (g,v),h:=hite g h st.h})
def runL (E:Env) (ops:List Oper):List Oper→St→Prop × St
 | [],st=>(True,st)
 | o::l,st=>match step E ops o st with
  | (c,st')=>match runL E ops l st' with
   | (c',st'')=>(c∧c',st'')
end Go.Sx
end
section
namespace Go.Sx
open Go.RowKit
variable [Gls]
inductive Ex where
 | normal
 | exit (id:Nat)
 | ret
def HLe (h h':Hp):Prop:=((∀s i B,hget h' s i=some B→hget h s i=some B)∧∀s,hnext h s≤hnext h' s)∧h' YS=h YS
def TLe (t t':Nat→Bool × V):Prop:=∀k,t' k=(true,.top)∨t' k=t k∨∃x,t k=(true,x)∧∃y,t' k=(true,y)∧sub x y
structure StLe (st st':St):Prop where
 t:TLe st.t st'.t
 h:HLe st.h st'.h
def hfl (h:Hp) (b:Bool) (s:Nat):Site:=if s=YS then {base:=hnext h YS,blks:=[],fl:=b}else h s
inductive Gh:St→St→Prop
 | refl (st:St):Gh st st
 | nil (st st':St) (k key z:Nat) (ty:TypeId) (hk:st.t k=(true,.nil)) (hz:0<z) (hy:key≠YS) (h:Gh {t:=upd st.t (some k) (true,.bsl key (hnext st.h key) 0),h:=hpush st.h key {z:=z,els:=[],ty:=ty}} st'):Gh st st'
def FreeAt (E:Env) (o:Oper) (st:St):Prop:=∀h h',sem E (o.dst.getD 0) o.op (ev2 st) h'={sem E (o.dst.getD 0) o.op (ev2 st) h with h:=h'}
def FzOk (o:Oper) (st:St):Prop:=match o.op with
 | .load _ a=>match ev2 st a with
  | .bptr s i _ _ _=>match hget st.h s i with
   | some B=>B.fz=true
   | none=>False
  | _=>False
 | _=>False
def nilApp (c:Call):Bool:=match c.callee,c.args.toList with
 | .builtin .append,[.const (.slice none 0 0),_]=>true
 | _,_=>false
def pusher (o:Oper):Bool:=match o.op with
 | .alloc _|.box .. | .makeSlice .. | .buildSlice ..=>true
 | .call c=>nilApp c
 | _=>false
def NwOk (o:Oper) (st:St):Prop:=match o.op with
 | .call c=>match c.callee,c.args.toList,c.argTypes.toList with
  | .builtin .append,[.const (.slice none 0 0),x],[T,T2]=>T2=T∧match ev2 st x with
   | .sl _ _|.nil=>True
   | _=>False
  | _,_,_=>False
 | _=>False
def FoOk (E:Env) (ops:List Oper) (o:Oper) (st:St):Prop:=match o.op with
 | .load _ a=>match ev2 st a with
  | .bptr s _ _ _ _=>(ops.all fun q=>!pusher q || E.key+q.dst.getD 0 != s)=true
  | _=>False
 | .indexAddr _ a _=>match ev2 st a with
  | .bptr s _ _ _ _|.bsl s _ _|.osl s _ _ _ _ _=>(ops.all fun q=>!pusher q || E.key+q.dst.getD 0 != s)=true
  | _=>False
 | _=>False
abbrev Alts:=List (Nat × (List Nat × List (List Nat)))
def runI (E:Env) (ops:List Oper) (fr:List Nat):List Nat→St→Prop × St
 | [],st=>(True,st)
 | i::l,st=>match ops[i]? with
  | none=>runI E ops fr l st
  | some o=>((((fr.contains i=true→FreeAt E o st)∧(fr.contains (i+1000)=true→FzOk o st)∧(fr.contains (i+2000)=true→FoOk E ops o st)∧(fr.contains (i+3000)=true→NwOk o st))∧(step E ops o st).1)∧(runI E ops fr l (step E ops o st).2).1,(runI E ops fr l (step E ops o st).2).2)
def runs (E:Env) (ops:List Oper) (fr:List Nat):List (List Nat)→St→(St→Prop)→Prop
 | [],_,_=>True
 | l::r,st,K=>((runI E ops fr l st).1∧K (runI E ops fr l st).2)∧runs E ops fr r st K
def frz1 (h:Hp):V→Prop × Hp
 | .bptr s i _ _ _|.bsl s i _=>match hget h s i with
  | some B=>(True,hset h s i {B with fz:=true})
  | none=>(False,h)
 | _=>(False,h)
def frzP (k:Nat) (st:St):Prop × St:=(((st.t k).2.leaf=true∧(lend1 st.h (st.t k).2).1)∧fzN 3 st.h (st.t k).2,{t:=upd st.t (some k) ((st.t k).1,(lend1 st.h (st.t k).2).2),h:=st.h})
def frzW (q:Nat) (st:St):Prop × St:=match st.t (q % 1000)with
 | (g,.osl s i n off len cap)=>match hget st.h s i with
  | some B=>((g=true∧q / 1000≠999999999)∧B.fz=false∧n=B.els.length∧off+len≤n∧len≤cap∧B.els≠[],{t:=upd st.t (some (q % 1000)) (g,.bsl (q / 1000) (hnext st.h (q / 1000)) len),h:=hpush (hcut st.h s i) (q / 1000) {B with els:=(B.els.drop off).take len}})
  | none=>(False,st)
 | (g,.bsl s i n)=>match hget st.h s i with
  | some B=>((g=true∧q / 1000≠999999999)∧B.fz=false∧n=B.els.length∧B.els≠[],{t:=upd st.t (some (q % 1000)) (g,.bsl (q / 1000) (hnext st.h (q / 1000)) n),h:=hpush (hcut st.h s i) (q / 1000) B})
  | none=>(False,st)
 | (_,.nil)|(_,.sl ..)|(_,.emp)=>(True,st)
 | _=>(False,st)
def frzK (k:Nat) (st:St):Prop × St:=if 1000000≤k then frzW (k - 1000000) st else if 100000≤k then (True,{t:=st.t,h:=frzH st.h (k - 100000)})else if 50000≤k then frzP (k - 50000) st else match frz1 st.h (st.t k).2 with
 | (c,h')=>(c,{t:=st.t,h:=h'})
def frzs:List Nat→St→Prop × St
 | [],st=>(True,st)
 | k::r,st=>match frzK k st with
  | (c,st')=>match frzs r st' with
   | (c',st'')=>(c∧c',st'')
def setT (t:Nat→Bool × V):List Nat→List V→Nat→Bool × V
 | p::ps,x::xs=>setT (upd t (some p) (true,x)) ps xs
 | _,_=>t
def awp (E:Env) (ok:Alts):Code→St→(Ex→St→Prop)→Prop
 | .skip,st,Q=>Q .normal st
 | .region id ops draw,st,Q=>match frzs (lkf E.frz id) st with
  | (c0,st)=>c0∧match draw,ok.lookup id with
   | true,some (fr,cs)=>runs E ops.toList fr cs st fun st'=>Q .normal st'
   | _,_=>match runL E ops.toList ops.toList st with
    | (c,st')=>c∧Q .normal st'
 | .seq a b,st,Q=>awp E ok a st fun e st'=>match e with
  | .normal=>awp E ok b st' Q
  | e=>Q e st'
 | .cond c x y,st,Q=>match ev st c with
  | (g,.bool b)=>g=true∧(b=true→awp E ok x st Q)∧(b=false→awp E ok y st Q)
  | (g,.anyb)=>g=true∧awp E ok x st Q∧awp E ok y st Q
  | _=>False
 | .block id c,st,Q=>awp E ok c st fun e st'=>match e with
  | .exit i=>if i=id then Q .normal st' else Q (.exit i) st'
  | e=>Q e st'
 | .loop c,st,Q=>∃(ι:Type) (I:ι→St) (m:ι→Nat) (i0:ι),(∃st1,Gh st st1∧StLe st1 (I i0))∧∀i,awp E ok c (I i) fun e st'=>match e with
  | .normal=>∃j,StLe st' (I j)∧m j<m i
  | e=>Q e st'
 | .exit id,st,Q=>Q (.exit id) st
 | .ret,st,Q=>Q .ret st
 | .rangeFunc g ps assign body,st,Q=>E.yl=none∧∃(it:Nat) (caps:List V) (S:Nat→HSpec→HSpec) (Y:HSpec) (e0:Ex),
   ((ev st g=(true,.fn it caps)∧E.fn it=some (.iter S))∧(ps.toList.all fun p=>decide (p<E.nt))=true)∧
   (∀args h,(Y.go args h).c→((h YS).blks=[]∧(h YS).fl=false)∧args.length=ps.size∧awp E ok assign {t:=setT st.t ps.toList args,h:=h} fun e st1=>match e with
    | .normal=>awp E ok body st1 fun e st2=>match e with
     | .normal=>(Y.go args h).v=.bool true∧HLe (hfl st2.h false) (Y.go args h).h
     | .ret=>e0=.ret∧(Y.go args h).v=.bool false∧HLe (hfl st2.h true) (Y.go args h).h
     | .exit id=>e0=.exit id∧(Y.go args h).v=.bool false∧HLe (hfl st2.h true) (Y.go args h).h
    | _=>False)∧
   ∀l,((S l Y).go (.yld l::caps) (hfl st.h false)).c∧
    (((((S l Y).go (.yld l :: caps) (hfl st.h false)).h YS).fl = false → Q .normal { t := st.t, h := hfl ((S l Y).go (.yld l :: caps) (hfl st.h false)).h false }) ∧
     ((((S l Y).go (.yld l::caps) (hfl st.h false)).h YS).fl=true→e0≠.normal∧Q e0 {t:=st.t,h:=hfl ((S l Y).go (.yld l::caps) (hfl st.h false)).h false}))
 | _,_,_=>False
end Go.Sx
end
section
namespace Go.Sx
open Go.RowKit
variable [Gls]
section inv
variable {w:World} {A:Nat→Prop} {X:Refs}
omit [Gls]in
theorem RV.int_inv {k:IntKind} {n:Int} {u:Value} (h:RV w A X (.int k n) u):u=.int k n:=by
 cases h with|pure h=>cases h; rfl
omit [Gls]in
theorem RV.bool_inv {b:Bool} {u:Value} (h:RV w A X (.bool b) u):u=.bool b:=by
 cases h with|pure h=>cases h; rfl
omit [Gls]in
theorem RV.anyb_inv {u:Value} (h:RV w A X .anyb u):∃b,u=.bool b:=by
 cases h with|pure h=>cases h; exact⟨_,rfl⟩
omit [Gls]in
theorem RV.nil_inv {u:Value} (h:RV w A X .nil u):u=.slice none 0 0:=by
 cases h with|pure h=>cases h; rfl
omit [Gls]in
theorem RV.nilp_inv {u:Value} (h:RV w A X .nilp u):u=.pointer none:=by
 cases h with|pure h=>cases h; rfl
omit [Gls]in
theorem RV.nilf_inv {u:Value} (h:RV w A X .nilf u):u=.nilFunc:=by
 cases h with|pure h=>cases h; rfl
omit [Gls]in
theorem RV.sl_inv {z:Nat} {els:List (List V)} {u:Value} (h:RV w A X (.sl z els) u):PV w A (.sl z els) u:=by
 cases h with|pure h=>exact h
omit [Gls]in
theorem RV.ip_inv {z:Nat} {els:List (List V)} {e j:Nat} {u:Value} (h:RV w A X (.ip z els e j) u):PV w A (.ip z els e j) u:=by
 cases h with|pure h=>exact h
omit [Gls]in
theorem RV.agg_inv {cs:List V} {u:Value} (h:RV w A X (.agg cs) u):∃us:Array Value,u=.agg us∧us.size=cs.length∧∀i c,cs[i]?=some c→RV w A X c (us.getD i und):=by
 cases h with
 | pure h=>cases h with|agg cs us hl h=>exact⟨us,rfl,hl,fun i c hc=>.pure (h i c hc)⟩
 | agg cs us hl h=>exact⟨us,rfl,hl,h⟩
omit [Gls]in
theorem RV.tup_inv {cs:List V} {u:Value} (h:RV w A X (.tup cs) u):∃us:Array Value,u=.tuple us∧us.size=cs.length∧∀i c,cs[i]?=some c→RV w A X c (us.getD i und):=by
 cases h with
 | pure h=>cases h with|tup cs us hl h=>exact⟨us,rfl,hl,fun i c hc=>.pure (h i c hc)⟩
 | tup cs us hl h=>exact⟨us,rfl,hl,h⟩
omit [Gls]in
theorem RV.fn_inv {f:Nat} {cs:List V} {u:Value} (h:RV w A X (.fn f cs) u):∃us:Array Value,u=.func (.func f) #[] us∧us.size=cs.length∧∀i c,cs[i]?=some c→RV w A X c (us.getD i und):=by
 cases h with
 | pure h=>cases h with|fn f cs us hl h=>exact⟨us,rfl,hl,fun i c hc=>.pure (h i c hc)⟩
 | fn f cs us hl h=>exact⟨us,rfl,hl,h⟩
omit [Gls]in
theorem RV.bsl_inv {s i n:Nat} {u:Value} (h:RV w A X (.bsl s i n) u):∃a c,u=.slice a n c∧i<X.N s∧n≤(X.D s i).len∧(n=(X.D s i).len→Value.slice a n c=(X.D s i).v):=by
 cases h with
 | pure h=>cases h
 | bsl _ _ _ a c hN hn hv=>exact⟨a,c,rfl,hN,hn,hv⟩
omit [Gls]in
theorem RV.bptr_inv {s i n e j:Nat} {u:Value} (h:RV w A X (.bptr s i n e j) u):∃a,u=.pointer (some a)∧i<X.N s∧n≤(X.D s i).len∧(n=(X.D s i).len→a=⟨(X.D s i).b,(X.D s i).o+e * (X.D s i).z+j,none⟩):=by
 cases h with
 | pure h=>cases h
 | bptr _ _ _ _ _ a hN hn hv=>exact⟨a,rfl,hN,hn,hv⟩
omit [Gls]in
theorem RV.osl_inv {s i n off len cap:Nat} {u:Value} (h:RV w A X (.osl s i n off len cap) u):∃a c,u=.slice (some a) len c∧cap≤c∧i<X.N s∧n≤(X.D s i).len∧(n=(X.D s i).len→a=⟨(X.D s i).b,(X.D s i).o+off * (X.D s i).z,none⟩∧off+c≤(X.D s i).cap):=by
 cases h with
 | pure h=>cases h
 | osl _ _ _ _ _ _ a c hcc hN hn hv=>exact⟨a,c,rfl,hcc,hN,hn,hv⟩
omit [Gls]in
theorem RV.emp_inv {u:Value} (h:RV w A X .emp u):∃a,u=.slice (some a) 0 0:=by
 cases h with
 | pure h=>cases h with
  | emp a=>exact⟨a,rfl⟩
omit [Gls]in
theorem RV.len_inv {x:V} {n:Nat} {u:Value} (h:RV w A X x u) (hx:x.len=some n):∃a c,u=.slice a n c:=by
 cases x<;>simp only [V.len,Option.some.injEq,reduceCtorEq]at hx
 ·subst hx; exact⟨none,0,h.nil_inv⟩
 ·subst hx
  have h':=h.sl_inv
  cases h' with
  | sl0 z a cap=>exact⟨a,cap,rfl⟩
  | sl z els b off cap u hcap=>exact⟨_,cap,rfl⟩
 ·subst hx; obtain⟨a,c,rfl,_⟩:=h.bsl_inv; exact⟨a,c,rfl⟩
 ·subst hx; obtain⟨a,c,rfl,_⟩:=h.osl_inv; exact⟨_,_,rfl⟩
 ·subst hx; obtain⟨a,rfl⟩:=h.emp_inv; exact⟨_,_,rfl⟩
omit [Gls]in
theorem PV.one {x:V} {u:Value} (h:PV w A x u) (hx:x.cell1=true):u.oneCell'=true:=by
 cases h<;>simp_all [V.cell1,Value.oneCell']
omit [Gls]in
theorem RV.one {x:V} {u:Value} (h:RV w A X x u) (hx:x.cell1=true):u.oneCell'=true:=by
 cases h with
 | pure h=>exact h.one hx
 | agg=>simp [V.cell1]at hx
 | tup=>simp [V.cell1]at hx
 | fn=>rfl
 | bsl=>rfl
 | bptr=>rfl
 | osl=>rfl
omit [Gls]in
theorem PV.of_refFree1 {x:V} {u:Value} (h:RV w A X x u) (hx:x.refFree1=true):PV w A x u:=by
 cases h with
 | pure h=>exact h
 | agg=>simp [V.refFree1]at hx
 | tup=>simp [V.refFree1]at hx
 | fn f cs us hl h=>
  cases cs with
  | nil=>exact .fn f [] us hl (by simp)
  | cons c cs=>simp [V.refFree1]at hx
 | bsl=>simp [V.refFree1]at hx
 | bptr=>simp [V.refFree1]at hx
 | osl=>simp [V.refFree1]at hx
omit [Gls]in
theorem PV.of_refFree {x:V} {u:Value} (h:RV w A X x u) (hx:x.refFree=true):PV w A x u:=by
 cases h with
 | pure h=>exact h
 | agg cs us hl h=>
  simp only [V.refFree,List.all_eq_true]at hx
  exact .agg cs us hl fun i c hc=>.of_refFree1 (h i c hc) (hx c (List.mem_of_getElem? hc))
 | tup cs us hl h=>
  simp only [V.refFree,List.all_eq_true]at hx
  exact .tup cs us hl fun i c hc=>.of_refFree1 (h i c hc) (hx c (List.mem_of_getElem? hc))
 | fn f cs us hl h=>
  simp only [V.refFree,List.all_eq_true]at hx
  exact .fn f cs us hl fun i c hc=>.of_refFree1 (h i c hc) (hx c (List.mem_of_getElem? hc))
 | bsl=>simp [V.refFree,V.refFree1]at hx
 | bptr=>simp [V.refFree,V.refFree1]at hx
 | osl=>simp [V.refFree,V.refFree1]at hx
def CellsOK (w:World) (A:Nat→Prop) (X:Refs) (cs:List V) (us:Array Value):Prop:=
 us.size=cs.length∧∀(j:Nat) (c:V),cs[j]?=some c→∃u,us[j]?=some u∧u.oneCell'=true∧RV w A X c u
omit [Gls]in
theorem cells_of_one {u:Value} (h:u.oneCell'=true):u.cells = #[u]:=by
 cases u<;>simp_all [Value.cells,Value.oneCell']
omit [Gls]in
theorem RV.cells {x:V} {u:Value} (h:RV w A X x u) (hx:x.cells.all V.cell1=true):CellsOK w A X x.cells u.cells:=by
 simp only [List.all_eq_true]at hx
 by_cases ha:∃cs,x=.agg cs
 ·obtain⟨cs,rfl⟩:=ha
  obtain⟨us,rfl,hl,hc⟩:=h.agg_inv
  simp only [V.cells,Value.cells]at hx ⊢
  refine⟨hl,fun j c hj=>?_⟩
  have hlt:j<us.size:=by rw [hl]; exact(List.getElem?_eq_some_iff.1 hj).1
  have:=hc j c hj
  rw [Array.getD_eq_getD_getElem?,Array.getElem?_eq_getElem hlt,Option.getD_some]at this
  exact⟨us[j],Array.getElem?_eq_getElem hlt,this.one (hx c (List.mem_of_getElem? hj)),this⟩
 ·have hxc:x.cells=[x]:=by cases x<;>first|rfl|exact absurd ⟨_,rfl⟩ ha
  rw [hxc]at hx ⊢
  have h1:=h.one (hx x (by simp))
  rw [cells_of_one h1]
  refine⟨rfl,fun j c hj=>?_⟩
  cases j with
  | zero=>simp at hj; subst hj; exact⟨u,by simp,h1,h⟩
  | succ j=>simp at hj
end inv
omit [Gls]in
theorem addr_add (b o n:Nat):(⟨b,o,none⟩:Addr).add n=⟨b,o+n,none⟩:=by
 unfold Addr.add; split<;>simp_all
section alloc
variable {F:Fr} {w:World} {A:Nat→Prop} {X:Refs} {h:Hp}
def refsNew (w:World) (X:Refs) (h:Hp) (s:Nat) (B:Blk) (cap:Nat):Refs:=
 {D:=fun s' i'=>if s'=s∧i'=hnext h s then {b:=w.heap.size,z:=B.z,len:=B.els.length,v:=.slice (some ⟨w.heap.size,0,none⟩) B.els.length cap}else X.D s' i',
  N:=fun s'=>if s'=s then hnext h s+1 else X.N s'}
theorem Inv.xle_new (hI:Inv F w A X h) (s:Nat) (B:Blk) (cap:Nat):Xle X (refsNew w X h s B cap):=by
 intro s' i' hi
 have:=hI.nb s'
 constructor
 ·simp only [refsNew]; split
  ·rename_i hs; subst hs; omega
  ·exact hi
 ·left
  simp only [refsNew]
  rw [if_neg]
  rintro⟨rfl,rfl⟩
  omega
theorem Inv.later_alloc (_hI:Inv F w A X h) (o:Obj):Later w A (w.alloc o) (fun b=>A b∨b=w.heap.size):=
 ⟨by simp,fun b hb hA=>⟨Below.heap_alloc w o b hb,fun hh=>by rcases hh with hh|hh; exact hA hh; omega⟩⟩
theorem Inv.alloc (hI:Inv F w A X h) (s:Nat) (B:Blk) (arr:Array Value) (cap:Nat) (hfz:B.fz=false) (hcap:B.els.length≤cap) (hm:cap≤maxLen) (hrows:∀row∈B.els,row.length=B.z)
  (hsz:arr.size=cap * B.z)
  (hc:∀e j row c,B.els[e]?=some row→row[j]?=some c→∃u,arr[e * B.z+j]?=some u∧u.oneCell'=true∧RV w A X c u∧(B.cl=true→PV w A c u)) :
  Inv F (w.alloc (.cells arr B.ty)) (fun b=>A b∨b=w.heap.size) (refsNew w X h s B cap) (hpush h s B):=by
 have hL:=hI.later_alloc (.cells arr B.ty)
 have hX:=hI.xle_new s B cap
 refine {gl:=hI.gl.mono hL,abd:=?_,aold:=?_,akeep:=?_,os:=hI.os,tape:=hI.tape,output:=hI.output,size:=?_,same:=?_,xle:=hI.xle.trans hX,nb:=?_,blk:=?_,inj:=?_}
 ·rintro b (hb|rfl)
  ·have:=hI.abd b hb; simp; omega
  ·simp
 ·rintro b hb (h1|rfl)
  ·exact hI.aold b hb h1
  ·have:=hI.size; omega
 ·intro b hb h1 h2; exact .inl (hI.akeep b hb h1 h2)
 ·have:=hI.size; simp; omega
 ·intro b hb hM
  have:=hI.size
  rw [Below.heap_alloc w _ b (by omega)]
  exact hI.same b hb hM
 ·intro s'
  rw [hnext_push]
  simp only [refsNew]
  have:=hI.nb s'
  split
  ·rename_i hs; subst hs; omega
  ·omega
 ·intro s' i' B' hB'
  by_cases hnew:s'=s∧i'=hnext h s
  ·obtain⟨rfl,rfl⟩:=hnew
   rw [hget_push_new]at hB'
   obtain rfl:=Option.some.inj hB'
   have hD:(refsNew w X h s' B cap).D s' (hnext h s')={b:=w.heap.size,z:=B.z,len:=B.els.length,v:=.slice (some ⟨w.heap.size,0,none⟩) B.els.length cap}:=by simp [refsNew]
   refine {hN:=by simp [refsNew],hz:=by rw [hD],hlen:=by rw [hD],rows:=hrows,mem:=.inr ⟨arr,cap,?_,?_,hcap,hm,by rw [hD,hsz,Nat.zero_add]; exact Nat.le_refl _,?_,?_,?_⟩}
   ·rw [hD]; exact heap_alloc_new w _
   ·rw [hD]
   ·intro e j row c he hj
    obtain⟨u,h1,h2,h3,h4⟩:=hc e j row c he hj
    exact⟨u,by rw [hD,Nat.zero_add]; exact h1,h2,h3.mono hL hX,fun hcl=>(h4 hcl).mono hL⟩
   ·rw [hfz]; simp
   ·intro _; rw [hD]; exact⟨.inr rfl,.inr hI.size⟩
  ·rw [hget_push_old h s s' i' B (fun e hi=>hnew ⟨e,hi⟩)]at hB'
   have ho:=hI.blk s' i' B' hB'
   have hD:(refsNew w X h s B cap).D s' i'=X.D s' i':=by simp only [refsNew]; rw [if_neg hnew]
   refine {hN:=(hX s' i' ho.hN).1,hz:=by rw [hD]; exact ho.hz,hlen:=by rw [hD]; exact ho.hlen,rows:=ho.rows,mem:=?_}
   rw [hD]
   rcases ho.mem with hm'|⟨arr',cap',h1,h2,h3,h4,h5,h6,h7,h8⟩
   ·exact .inl hm'
   ·have hlt:(X.D s' i').b<w.heap.size:=(Array.getElem?_eq_some_iff.1 h1).1
    refine .inr ⟨arr',cap',?_,h2,h3,h4,h5,?_,?_,?_⟩
    ·rw [Below.heap_alloc w _ _ hlt]; exact h1
    ·intro e j row c he hj
     obtain⟨u,g1,g2,g3,g4⟩:=h6 e j row c he hj
     exact⟨u,g1,g2,g3.mono hL hX,fun hcl=>(g4 hcl).mono hL⟩
    ·rintro hf (hb|hb)
     ·exact h7 hf hb
     ·omega
    ·intro hf; exact⟨.inl (h8 hf).1,(h8 hf).2⟩
 ·intro s1 i1 B1 s2 i2 B2 hb1 hb2 hr1 hr2 heq
  have key:∀s' i' B',hget (hpush h s B) s' i'=some B'→((refsNew w X h s B cap).D s' i').real→(s'=s∧i'=hnext h s∧((refsNew w X h s B cap).D s' i').b=w.heap.size)∨(hget h s' i'=some B'∧(refsNew w X h s B cap).D s' i'=X.D s' i'∧(X.D s' i').b<w.heap.size):=by
   intro s' i' B' hB' hr
   by_cases hnew:s'=s∧i'=hnext h s
   ·left; exact⟨hnew.1,hnew.2,by simp [refsNew,hnew]⟩
   ·right
    rw [hget_push_old h s s' i' B (fun e hi=>hnew ⟨e,hi⟩)]at hB'
    have ho:=hI.blk s' i' B' hB'
    have hD:(refsNew w X h s B cap).D s' i'=X.D s' i':=by simp only [refsNew]; rw [if_neg hnew]
    refine⟨hB',hD,?_⟩
    rw [hD]at hr
    rcases ho.mem with hm'|⟨arr',cap',h1,_⟩
    ·exact absurd hm'.1 hr
    ·exact(Array.getElem?_eq_some_iff.1 h1).1
  rcases key s1 i1 B1 hb1 hr1 with⟨e1,e1',e1''⟩|⟨g1,d1,l1⟩<;>rcases key s2 i2 B2 hb2 hr2 with⟨e2,e2',e2''⟩|⟨g2,d2,l2⟩
  ·exact⟨e1.trans e2.symm,e1'.trans e2'.symm⟩
  ·rw [e1'',d2]at heq; omega
  ·rw [e2'',d1]at heq; omega
  ·rw [d1,d2]at heq
   rw [d1]at hr1; rw [d2]at hr2
   exact hI.inj s1 i1 B1 s2 i2 B2 g1 g2 hr1 hr2 heq
end alloc
end Go.Sx
end
section
namespace Go.Sx
open Go.RowKit
variable [Gls]
omit [Gls]in
theorem splice_get (row cs:List V) (j k:Nat) (hj:j+cs.length≤row.length) :
  (splice row j cs)[k]?=if k<j then row[k]? else if k<j+cs.length then cs[k - j]? else row[k]?:=by
 unfold splice
 rw [List.append_assoc,List.getElem?_append,List.length_take]
 have hm:min j row.length=j:=by omega
 rw [hm]
 by_cases h1:k<j
 ·simp only [h1,if_true]; rw [List.getElem?_take]; simp [h1]
 ·simp only [h1,if_false]
  rw [List.getElem?_append]
  by_cases h2:k<j+cs.length
  ·have:k - j<cs.length:=by omega
   simp [h2,this]
  ·have:¬ k - j<cs.length:=by omega
   simp only [h2,this,if_false]
   rw [List.getElem?_drop]
   congr 1; omega
omit [Gls]in
theorem splice_length (row cs:List V) (j:Nat) (hj:j+cs.length≤row.length):(splice row j cs).length=row.length:=by
 simp [splice]; omega
omit [Gls]in
theorem flat_lt {e e' z j j' m:Nat} (hne:e'≠e) (hj:j+m≤z) (hj':j'<z):e' * z+j'<e * z+j∨e * z+j+m≤e' * z+j':=by
 rcases Nat.lt_or_gt_of_ne hne with h|h
 ·left
  have:(e'+1) * z≤e * z:=Nat.mul_le_mul_right z h
  rw [Nat.add_mul]at this; omega
 ·right
  have:(e+1) * z≤e' * z:=Nat.mul_le_mul_right z h
  rw [Nat.add_mul]at this; omega
omit [Gls]in
theorem seg_get (l vs:List Value) (o k:Nat) (ho:o+vs.length≤l.length) :
  (l.take o++vs++l.drop (o+vs.length))[k]?=if k<o then l[k]? else if k<o+vs.length then vs[k - o]? else l[k]?:=by
 rw [List.append_assoc,List.getElem?_append,List.length_take]
 have hm:min o l.length=o:=by omega
 rw [hm]
 by_cases h1:k<o
 ·simp only [h1,if_true]; rw [List.getElem?_take]; simp [h1]
 ·simp only [h1,if_false]
  rw [List.getElem?_append]
  by_cases h2:k<o+vs.length
  ·have:k - o<vs.length:=by omega
   simp [h2,this]
  ·have:¬ k - o<vs.length:=by omega
   simp only [h2,this,if_false]
   rw [List.getElem?_drop]
   congr 1; omega
section
variable {F:Fr} {w:World} {A:Nat→Prop} {X:Refs} {h:Hp}
theorem Inv.turn (hI:Inv F w A X h) {s i:Nat} {B B':Blk} (hB:hget h s i=some B) {w':World} (hsz:w'.heap.size=w.heap.size) (hos:w'.os=w.os) (htp:w'.tape=w.tape) (hout:w'.output=w.output)
  (hfz:B.fz=false) (hreal:(X.D s i).real)
  (hoth:∀b,b≠(X.D s i).b→w'.heap[b]?=w.heap[b]?)
  (hok:Later w A w' A→BOK F w' A X s i B'):Later w A w' A∧Inv F w' A X (hset h s i B'):=by
 have hb:=hI.blk s i B hB
 have hown:A (X.D s i).b∧(F.M (X.D s i).b∨F.w0.heap.size≤(X.D s i).b):=by
  rcases hb.mem with hm|⟨arr,cap,_,_,_,_,_,_,_,h8⟩
  ·exact absurd hm.1 hreal
  ·exact h8 hfz
 have hL:Later w A w' A:=⟨by omega,fun b hlt hA=>⟨hoth b (fun e=>hA (e ▸ hown.1)),hA⟩⟩
 refine⟨hL,{gl:=hI.gl.mono hL,abd:=?_,aold:=hI.aold,akeep:=hI.akeep,os:=hos.trans hI.os,tape:=htp.trans hI.tape,output:=hout.trans hI.output,size:=by have:=hI.size; omega,same:=?_,xle:=hI.xle,nb:=fun s'=>by rw [hnext_set]; exact hI.nb s',blk:=?_,inj:=?_}⟩
 ·intro b hA; have:=hI.abd b hA; omega
 ·intro b hlt hM
  rw [hoth b (fun e=>?_)]
  ·exact hI.same b hlt hM
  ·rcases hown.2 with h1|h1
   ·exact hM (e ▸ h1)
   ·omega
 ·intro s' i' B1 hB1
  by_cases hsi:s'=s∧i'=i
  ·obtain⟨rfl,rfl⟩:=hsi
   rw [hget_set_same hB]at hB1
   obtain rfl:=Option.some.inj hB1
   exact hok hL
  ·rw [hget_set_other h B' hsi (hget_base hB)]at hB1
   have ho:=hI.blk s' i' B1 hB1
   refine {hN:=ho.hN,hz:=ho.hz,hlen:=ho.hlen,rows:=ho.rows,mem:=?_}
   rcases ho.mem with hm|⟨arr,cap,h1,h2,h3,h4,h5,h6,h7,h8⟩
   ·exact .inl hm
   ·refine .inr ⟨arr,cap,?_,h2,h3,h4,h5,?_,h7,h8⟩
    ·rw [hoth _ (fun e=>hsi ?_)]
     ·exact h1
     ·exact hI.inj s' i' B1 s i B hB1 hB (by unfold Hd.real; rw [h2]; simp) hreal e
    ·intro e j row c he hj
     obtain⟨u,g1,g2,g3,g4⟩:=h6 e j row c he hj
     exact⟨u,g1,g2,g3.mono hL (Xle.refl X),fun hcl=>(g4 hcl).mono hL⟩
 ·intro s1 i1 B1 s2 i2 B2 hb1 hb2 hr1 hr2 heq
  have key:∀s' i' B1,hget (hset h s i B') s' i'=some B1→∃B2,hget h s' i'=some B2:=by
   intro s' i' B1 hB1
   by_cases hsi:s'=s∧i'=i
   ·obtain⟨rfl,rfl⟩:=hsi; exact⟨B,hB⟩
   ·rw [hget_set_other h B' hsi (hget_base hB)]at hB1; exact⟨_,hB1⟩
  obtain⟨C1,hC1⟩:=key _ _ _ hb1
  obtain⟨C2,hC2⟩:=key _ _ _ hb2
  exact hI.inj s1 i1 C1 s2 i2 C2 hC1 hC2 hr1 hr2 heq
omit [Gls]in
theorem BOK.real {s i:Nat} {B:Blk} (hb:BOK F w A X s i B) (hne:B.els≠[]):(X.D s i).real:=by
 rcases hb.mem with hm|⟨arr,cap,_,h2,_⟩
 ·exact absurd hm.2 hne
 ·unfold Hd.real; rw [h2]; simp
theorem Inv.store (P:Program) (hI:Inv F w A X h) {s i e j:Nat} {B:Blk} (hB:hget h s i=some B) (hfz:B.fz=false) (he:e<B.els.length) {cs:List V} {us:Array Value} (hj:j+cs.length≤B.z)
  (hcs:CellsOK w A X cs us) :
  ∃w',(storeCells ⟨(X.D s i).b,(X.D s i).o+e * B.z+j,none⟩ us.toList).run P w=.ok () w'∧Later w A w' A∧
   Inv F w' A X (hset h s i {B with els:=B.els.set e (splice (B.els.getD e []) j cs),cl:=B.cl && cs.all V.refFree}):=by
 have hb:=hI.blk s i B hB
 have hne:B.els≠[]:=fun hh=>by rw [hh]at he; simp at he
 have hreal:=hb.real hne
 rcases hb.mem with hm|⟨arr,cap,h1,h2,h3,h4,h5,h6,h7,h8⟩
 ·exact absurd hm.2 hne
 have hrow:B.els.getD e []=B.els[e]:=by simp [List.getD,List.getElem?_eq_getElem he]
 have hrl:(B.els[e]).length=B.z:=hb.rows _ (List.getElem_mem he)
 have hel:(e+1) * B.z≤cap * B.z:=Nat.mul_le_mul_right _ (by omega)
 have hfit:(X.D s i).o+e * B.z+j+cs.length≤arr.size:=by rw [Nat.add_mul]at hel; omega
 have husl:us.toList.length=cs.length:=by simpa using hcs.1
 have hrun:=run_storeCells_at P (X.D s i).b ((X.D s i).o+e * B.z+j) B.ty us.toList 0 arr w h1 (by rw [husl]; simpa using hfit) (by
  intro v hv
  obtain⟨k,hk⟩:=List.mem_iff_getElem?.1 hv
  have hk':us[k]?=some v:=by simpa using hk
  have hlt:k<cs.length:=by have:=(Array.getElem?_eq_some_iff.1 hk').1; rw [hcs.1]at this; exact this
  obtain⟨u,g1,g2,_⟩:=hcs.2 k cs[k] (List.getElem?_eq_getElem hlt)
  rw [hk']at g1; cases g1; exact g2)
 simp only [Nat.add_zero]at hrun
 refine⟨_,hrun,hI.turn hB (by simp [World.setRow]) rfl rfl rfl hfz hreal (fun b hbne=>setRow_other w _ b _ hbne) ?_⟩
 intro hL
 have hal:(X.D s i).o+e * B.z+j+us.toList.length≤arr.toList.length:=by rw [husl]; simpa using hfit
 refine {hN:=hb.hN,hz:=hb.hz,hlen:=by rw [hb.hlen]; simp,rows:=?_,mem:=.inr ⟨_,cap,setRow_heap w _ arr _ B.ty _ h1,by simpa using h2,by simpa using h3,h4,?_,?_,h7,h8⟩}
 ·intro row hr
  rcases List.mem_or_eq_of_mem_set hr with hr|rfl
  ·exact hb.rows row hr
  ·rw [splice_length,hrow,hrl]; rw [hrow,hrl]; exact hj
 ·simp only [List.size_toArray,List.length_append,List.length_take,List.length_drop,Array.length_toList]
  simp at hal; omega
 ·intro e' j' row c he' hj'
  simp only at he'
  by_cases hee:e'=e
  ·subst hee
   rw [List.getElem?_set_self he]at he'
   obtain rfl:=Option.some.inj he'
   rw [hrow,splice_get _ _ _ _ (by rw [hrl]; exact hj)]at hj'
   have hlen':j'<B.z∨B.z≤j':=by omega
   simp only [List.getElem?_toArray]
   rw [seg_get _ _ _ _ hal]
   by_cases c1:j'<j
   ·rw [if_pos c1]at hj'
    obtain⟨u,g1,g2,g3,g4⟩:=h6 e' j' B.els[e'] c (List.getElem?_eq_getElem he) hj'
    refine⟨u,?_,g2,g3.mono hL (Xle.refl X),fun hcl=>(g4 (by simp at hcl; exact hcl.1)).mono hL⟩
    rw [if_pos (by omega)]; simpa using g1
   ·rw [if_neg c1]at hj'
    by_cases c2:j'<j+cs.length
    ·rw [if_pos c2]at hj'
     obtain⟨u,g1,g2,g3⟩:=hcs.2 (j' - j) c hj'
     refine⟨u,?_,g2,g3.mono hL (Xle.refl X),fun hcl=>?_⟩
     ·rw [if_neg (by omega),if_pos (by omega)]
      rw [show(X.D s i).o+e' * B.z+j' - ((X.D s i).o+e' * B.z+j)=j' - j by omega]; simpa using g1
     ·simp only [Bool.and_eq_true,List.all_eq_true]at hcl
      exact PV.mono hL (PV.of_refFree g3 (hcl.2 c (List.mem_of_getElem? hj')))
    ·rw [if_neg c2]at hj'
     obtain⟨u,g1,g2,g3,g4⟩:=h6 e' j' B.els[e'] c (List.getElem?_eq_getElem he) hj'
     refine⟨u,?_,g2,g3.mono hL (Xle.refl X),fun hcl=>(g4 (by simp at hcl; exact hcl.1)).mono hL⟩
     rw [if_neg (by omega),if_neg (by omega)]; simpa using g1
  ·rw [List.getElem?_set_ne (fun hh=>hee hh.symm)]at he'
   obtain⟨u,g1,g2,g3,g4⟩:=h6 e' j' row c he' hj'
   have hj2:j'<B.z:=by rw [←hb.rows row (List.mem_of_getElem? he')]; exact(List.getElem?_eq_some_iff.1 hj').1
   refine⟨u,?_,g2,g3.mono hL (Xle.refl X),fun hcl=>(g4 (by simp at hcl; exact hcl.1)).mono hL⟩
   simp only [List.getElem?_toArray]
   rw [seg_get _ _ _ _ hal]
   rcases flat_lt hee hj hj2 with hc|hc
   ·rw [if_pos (by omega)]; simpa using g1
   ·rw [if_neg (by omega),if_neg (by omega)]; simpa using g1
def Refs.put (X:Refs) (s i:Nat) (d:Hd):Refs:={X with D:=fun s' i'=>if s'=s∧i'=i then d else X.D s' i'}
omit [Gls]in
theorem Refs.put_same (X:Refs) (s i:Nat) (d:Hd):(X.put s i d).D s i=d:=by simp [Refs.put]
omit [Gls]in
theorem Refs.put_other (X:Refs) {s i s' i':Nat} (d:Hd) (hne:¬ (s'=s∧i'=i)):(X.put s i d).D s' i'=X.D s' i':=by simp only [Refs.put]; rw [if_neg hne]
theorem Inv.turn2 (hI:Inv F w A X h) {s i:Nat} {B B':Blk} (hB:hget h s i=some B) {w':World} {A':Nat→Prop} {d':Hd} (hsz:w.heap.size≤w'.heap.size) (hos:w'.os=w.os) (htp:w'.tape=w.tape) (hout:w'.output=w.output)
  (hfz:B.fz=false)
  (hoth:∀b,b<w.heap.size→((X.D s i).real→b≠(X.D s i).b)→w'.heap[b]?=w.heap[b]?)
  (hA1:∀b,A b→A' b) (hA2:∀b,A' b→A b∨(w.heap.size≤b∧b<w'.heap.size))
  (hlen:d'=X.D s i∨(X.D s i).len<d'.len)
  (hb':d'.real→((X.D s i).real∧d'.b=(X.D s i).b)∨w.heap.size≤d'.b)
  (hok:Later w A w' A'→Xle X (X.put s i d')→BOK F w' A' (X.put s i d') s i B') :
  Later w A w' A'∧Xle X (X.put s i d')∧Inv F w' A' (X.put s i d') (hset h s i B'):=by
 have hb:=hI.blk s i B hB
 have hown:(X.D s i).real→A (X.D s i).b∧(F.M (X.D s i).b∨F.w0.heap.size≤(X.D s i).b):=by
  intro hreal
  rcases hb.mem with hm|⟨arr,cap,_,_,_,_,_,_,_,h8⟩
  ·exact absurd hm.1 hreal
  ·exact h8 hfz
 have hL:Later w A w' A':=⟨hsz,fun b hlt hA=>⟨hoth b hlt (fun hr e=>hA (e ▸ (hown hr).1)),fun hh=>by rcases hA2 b hh with h1|h1; exact hA h1; omega⟩⟩
 have hX:Xle X (X.put s i d'):=by
  intro s' i' hi
  refine⟨hi,?_⟩
  by_cases hsi:s'=s∧i'=i
  ·obtain⟨rfl,rfl⟩:=hsi; rw [Refs.put_same]; exact hlen
  ·rw [Refs.put_other X d' hsi]; exact .inl rfl
 refine⟨hL,hX,{gl:=hI.gl.mono hL,abd:=?_,aold:=?_,akeep:=fun b h1 h2 h3=>hA1 b (hI.akeep b h1 h2 h3),os:=hos.trans hI.os,tape:=htp.trans hI.tape,output:=hout.trans hI.output,size:=by have:=hI.size; omega,same:=?_,xle:=hI.xle.trans hX,nb:=fun s'=>by rw [hnext_set]; exact hI.nb s',blk:=?_,inj:=?_}⟩
 ·intro b hA
  rcases hA2 b hA with h1|h1
  ·have:=hI.abd b h1; omega
  ·exact h1.2
 ·intro b hlt hA
  rcases hA2 b hA with h1|h1
  ·exact hI.aold b hlt h1
  ·have:=hI.size; omega
 ·intro b hlt hM
  have:=hI.size
  rw [hoth b (by omega) (fun hr e=>?_)]
  ·exact hI.same b hlt hM
  ·rcases(hown hr).2 with h1|h1
   ·exact hM (e ▸ h1)
   ·omega
 ·intro s' i' B1 hB1
  by_cases hsi:s'=s∧i'=i
  ·obtain⟨rfl,rfl⟩:=hsi
   rw [hget_set_same hB]at hB1
   obtain rfl:=Option.some.inj hB1
   exact hok hL hX
  ·rw [hget_set_other h B' hsi (hget_base hB)]at hB1
   have ho:=hI.blk s' i' B1 hB1
   have hD:=Refs.put_other X d' hsi
   refine {hN:=ho.hN,hz:=by rw [hD]; exact ho.hz,hlen:=by rw [hD]; exact ho.hlen,rows:=ho.rows,mem:=?_}
   rw [hD]
   rcases ho.mem with hm|⟨arr,cap,h1,h2,h3,h4,h5,h6,h7,h8⟩
   ·exact .inl hm
   ·have hlt:(X.D s' i').b<w.heap.size:=(Array.getElem?_eq_some_iff.1 h1).1
    refine .inr ⟨arr,cap,?_,h2,h3,h4,h5,?_,?_,?_⟩
    ·rw [hoth _ hlt (fun hr e=>hsi ?_)]
     ·exact h1
     ·exact hI.inj s' i' B1 s i B hB1 hB (by unfold Hd.real; rw [h2]; simp) hr e
    ·intro e j row c he hj
     obtain⟨u,g1,g2,g3,g4⟩:=h6 e j row c he hj
     exact⟨u,g1,g2,g3.mono hL hX,fun hcl=>(g4 hcl).mono hL⟩
    ·intro hf hh
     rcases hA2 _ hh with h1'|h1'
     ·exact h7 hf h1'
     ·omega
    ·intro hf; exact⟨hA1 _ (h8 hf).1,(h8 hf).2⟩
 ·intro s1 i1 B1 s2 i2 B2 hb1 hb2 hr1 hr2 heq
  have key:∀s' i' B1,hget (hset h s i B') s' i'=some B1→((X.put s i d').D s' i').real→(s'=s∧i'=i∧(((X.D s i).real∧d'.b=(X.D s i).b)∨w.heap.size≤d'.b))∨(¬ (s'=s∧i'=i)∧hget h s' i'=some B1∧(X.D s' i').real∧(X.D s' i').b<w.heap.size):=by
   intro s' i' B1 hB1 hr
   by_cases hsi:s'=s∧i'=i
   ·obtain⟨rfl,rfl⟩:=hsi
    rw [Refs.put_same]at hr
    exact .inl ⟨rfl,rfl,hb' hr⟩
   ·rw [hget_set_other h B' hsi (hget_base hB)]at hB1
    rw [Refs.put_other X d' hsi]at hr
    refine .inr ⟨hsi,hB1,hr,?_⟩
    rcases(hI.blk s' i' B1 hB1).mem with hm|⟨arr,cap,h1,_⟩
    ·exact absurd hm.1 hr
    ·exact(Array.getElem?_eq_some_iff.1 h1).1
  rcases key _ _ _ hb1 hr1 with⟨e1,e1',c1⟩|⟨n1,g1,r1,l1⟩<;>rcases key _ _ _ hb2 hr2 with⟨e2,e2',c2⟩|⟨n2,g2,r2,l2⟩
  ·exact⟨e1.trans e2.symm,e1'.trans e2'.symm⟩
  ·rw [e1,e1',Refs.put_same,Refs.put_other X d' n2]at heq
   rcases c1 with⟨r,c1⟩|c1
   ·have:=hI.inj s i B s2 i2 B2 hB g2 r r2 (c1.symm.trans heq)
    exact absurd ⟨this.1.symm,this.2.symm⟩ n2
   ·omega
  ·rw [e2,e2',Refs.put_same,Refs.put_other X d' n1]at heq
   rcases c2 with⟨r,c2⟩|c2
   ·have:=hI.inj s1 i1 B1 s i B g1 hB r1 r (heq.trans c2)
    exact absurd this n1
   ·omega
  ·rw [Refs.put_other X d' n1,Refs.put_other X d' n2]at heq
   exact hI.inj s1 i1 B1 s2 i2 B2 g1 g2 r1 r2 heq
structure Src (P:Program) (w:World) (A:Nat→Prop) (X:Refs) (size:Nat) (x:Value) (els:List (List V)) (cl:Bool) (news:List Value):Prop where
 shape:∃a c,x=.slice a els.length c
 run:(Builtin.firstCells size els.length x).run P w=.ok news.toArray w
 run':(Builtin.firstCells size els.length x).run P w.drew=.ok news.toArray w.drew
 rows:∀row∈els,row.length=size
 len:news.length=els.length * size
 cells:∀e j row c,els[e]?=some row→row[j]?=some c→∃u,news[e * size+j]?=some u∧RV w A X c u∧(cl=true→PV w A c u)
 one:∀u∈news,u.oneCell'=true
omit [Gls]in
theorem rows_get {els:List (List V)} {e:Nat} {row:List V} (els2:List (List V)) (he:(els++els2)[e]?=some row):(e<els.length∧els[e]?=some row)∨(els.length≤e∧els2[e - els.length]?=some row):=by
 rw [List.getElem?_append]at he
 split at he
 ·rename_i hlt; exact .inl ⟨hlt,he⟩
 ·rename_i hlt; exact .inr ⟨by omega,he⟩
end
end Go.Sx
end
section
namespace Go.Sx
open Go.RowKit
variable [Gls]
section
variable {F:Fr} {w:World} {A:Nat→Prop} {X:Refs} {h:Hp}
omit [Gls]in
theorem run_append_src_room (P:Program) (t ty e:TypeId) (i:TypeInfo) (ht:P.underlying t=some (.slice e)) (hi:P.info? e=some i) (g o n cap:Nat) (cur:Array Value) (hg:w.heap[g]?=some (.cells cur e (0,0)))
  {x:Value} {els:List (List V)} {cl:Bool} {news:List Value} (hs:Src P w A X i.size x els cl news) (hroom:n+els.length≤cap) (hfit:o+n * i.size+news.length≤cur.size) :
  (Builtin.append_ #[t,t] ty #[.slice (some ⟨g,o,none⟩) n cap,x]).run P w =
   .ok (.slice (some ⟨g,o,none⟩) (n+els.length) cap) (w.setRow g (cur.toList.take (o+n * i.size)++news++cur.toList.drop (o+n * i.size+news.length)).toArray):=by
 obtain⟨a,c,rfl⟩:=hs.shape
 have hf:=hs.run
 have hst:=run_storeCells_at P g (o+n * i.size) e news 0 cur w hg (by simpa using hfit) hs.one
 simp only [Nat.add_zero]at hst
 simp [Builtin.append_,run_underlying ht,sizeOf,typeInfo,hi,Builtin.lenOf,hroom,hf,addr_add,hst]
omit [Gls]in
theorem run_append_src_nil0 (P:Program) (t ty e:TypeId) (i:TypeInfo) (ht:P.underlying t=some (.slice e)) (hi:P.info? e=some i)
  {x:Value} {els:List (List V)} {cl:Bool} {news:List Value} (hs:Src P w A X i.size x els cl news) (h0:els.length=0) :
  (Builtin.append_ #[t,t] ty #[.slice none 0 0,x]).run P w=.ok (.slice none 0 0) w:=by
 obtain⟨a,c,rfl⟩:=hs.shape
 have hf:=hs.run
 rw [h0]at hf ⊢
 simp [Builtin.append_,run_underlying ht,sizeOf,typeInfo,hi,Builtin.lenOf,hf]
omit [Gls]in
theorem run_append_src_emp0 (P:Program) (t ty e:TypeId) (i:TypeInfo) (ht:P.underlying t=some (.slice e)) (hi:P.info? e=some i) (b:Addr)
  {x:Value} {els:List (List V)} {cl:Bool} {news:List Value} (hs:Src P w A X i.size x els cl news) (h0:els.length=0) :
  (Builtin.append_ #[t,t] ty #[.slice (some b) 0 0,x]).run P w=.ok (.slice (some b) 0 0) w:=by
 obtain⟨a,c,rfl⟩:=hs.shape
 have hf:=hs.run
 have hn:news=[]:=List.eq_nil_of_length_eq_zero (by rw [hs.len,h0,Nat.zero_mul])
 subst hn
 rw [h0]at hf ⊢
 simp [Builtin.append_,run_underlying ht,sizeOf,typeInfo,hi,Builtin.lenOf,hf,storeCells]
omit [Gls]in
theorem run_append_src_nil (P:Program) (t ty e:TypeId) (i:TypeInfo) (z:Value) (ht:P.underlying t=some (.slice e)) (hi:P.info? e=some i) (hz:i.zero=some z)
  {x:Value} {els:List (List V)} {cl:Bool} {news:List Value} (hs:Src P w A X i.size x els cl news) (h0:0<els.length) (h63:(els.length:Int)≤9223372036854775807) (h48:els.length * i.bytes≤281474976710656) :
  (Builtin.append_ #[t,t] ty #[.slice none 0 0,x]).run P w =
   .ok (.slice (some ⟨w.heap.size,0,none⟩) els.length (grownCap w els.length 0 e)) (w.drew.alloc (.cells (news.toArray++Builtin.zeroCells z.cells (grownCap w els.length 0 e - els.length)) e)):=by
 obtain⟨a,c,rfl⟩:=hs.shape
 have hn:¬ els.length=0:=by omega
 have hn':¬ els=[]:=fun hh=>by rw [hh]at h0; simp at h0
 have h63':¬ (9223372036854775807<(els.length:Int)):=by omega
 have h48':¬ (281474976710656<Builtin.nextslicecap els.length 0 * i.bytes):=by rw [nextslicecap_zero h0]; omega
 have hf:=hs.run'
 simp [Builtin.append_,run_underlying ht,sizeOf,typeInfo,zeroValue,hi,hz,Builtin.lenOf,hn',h63',h48',Question.forced,run_firstCells_none,hf,newRow,grownCap]
omit [Gls]in
theorem run_append_src_grow (P:Program) (t ty e:TypeId) (i:TypeInfo) (z:Value) (ht:P.underlying t=some (.slice e)) (hi:P.info? e=some i) (hz:i.zero=some z)
  (b:Addr) (n cap:Nat) (olds:List Value) (hlo:olds.length=n * i.size) (holds:∀j v,olds[j]?=some v→w.cell? (b.add j)=some v)
  {x:Value} {els:List (List V)} {cl:Bool} {news:List Value} (hs:Src P w A X i.size x els cl news)
  (hg:cap<n+els.length) (h63:((n+els.length:Nat):Int)≤9223372036854775807) (hfit:Builtin.nextslicecap (n+els.length) cap * i.bytes≤281474976710656) :
  (Builtin.append_ #[t,t] ty #[.slice (some b) n cap,x]).run P w =
   .ok (.slice (some ⟨w.heap.size,0,none⟩) (n+els.length) (grownCap w (n+els.length) cap e))
    (w.drew.alloc (.cells (olds.toArray++news.toArray++Builtin.zeroCells z.cells (grownCap w (n+els.length) cap e - (n+els.length))) e)):=by
 obtain⟨a,c,rfl⟩:=hs.shape
 have hn:¬ (n+els.length≤cap):=by omega
 have h63':¬ (9223372036854775807<((n:Int)+(els.length:Int))):=by omega
 have h48':¬ (281474976710656<Builtin.nextslicecap (n+els.length) cap * i.bytes):=by omega
 have hf:=hs.run'
 have hfo:=run_firstCells_some (P:=P) w.drew i.size n b n cap olds hlo (by simpa using holds)
 simp [Builtin.append_,run_underlying ht,sizeOf,typeInfo,zeroValue,hi,hz,Builtin.lenOf,hn,h63',h48',Question.forced,hf,hfo,newRow,grownCap]
 congr 2
 apply Array.ext'
 simp [List.append_assoc]
theorem Inv.drew (hI:Inv F w A X h):Later w A w.drew A∧Inv F w.drew A X h:=by
 have hL:Later w A w.drew A:=⟨Nat.le_refl _,fun _ _ hA=>⟨rfl,hA⟩⟩
 refine⟨hL,{gl:=hI.gl.mono hL,abd:=hI.abd,aold:=hI.aold,akeep:=hI.akeep,os:=hI.os,tape:=hI.tape,output:=hI.output,size:=hI.size,same:=hI.same,xle:=hI.xle,nb:=hI.nb,blk:=?_,inj:=hI.inj}⟩
 intro s i B hB
 have ho:=hI.blk s i B hB
 refine {hN:=ho.hN,hz:=ho.hz,hlen:=ho.hlen,rows:=ho.rows,mem:=?_}
 rcases ho.mem with hm|⟨arr,cap,h1,h2,h3,h4,h5,h6,h7,h8⟩
 ·exact .inl hm
 ·refine .inr ⟨arr,cap,h1,h2,h3,h4,h5,?_,h7,h8⟩
  intro e j row c he hj
  obtain⟨u,g1,g2,g3,g4⟩:=h6 e j row c he hj
  exact⟨u,g1,g2,g3.mono hL (Xle.refl X),fun hcl=>(g4 hcl).mono hL⟩
omit [Gls]in
theorem idx_lt {e j z n:Nat} (he:e<n) (hj:j<z):e * z+j<n * z:=by
 have:(e+1) * z≤n * z:=Nat.mul_le_mul_right z he
 rw [Nat.add_mul]at this; omega
theorem Inv.append (P:Program) (hI:Inv F w A X h) {s i:Nat} {B:Blk} (hB:hget h s i=some B) (hfz:B.fz=false) {T ty e:TypeId} {ti:TypeInfo} {zv:Value} (ht:P.underlying T=some (.slice e)) (hi:P.info? e=some ti)
  (hzv:ti.zero=some zv) (hty:B.ty=e) (hzz:ti.size=B.z) (hz0:0<B.z) (hzs:zv.cells.size=B.z) {x:Value} {els2:List (List V)} {cl2:Bool} {news:List Value} (hsrc:Src P w A X B.z x els2 cl2 news)
  (hbytes:(B.els.length+els2.length) * ti.bytes≤140737488355328) (h63:B.els.length+els2.length≤maxLen) :
  ∃v' w' A' X',(Builtin.append_ #[T,T] ty #[(X.D s i).v,x]).run P w=.ok v' w'∧Later w A w' A'∧Xle X X'∧
   Inv F w' A' X' (hset h s i {B with els:=B.els++els2,cl:=B.cl && cl2})∧RV w' A' X' (.bsl s i (B.els.length+els2.length)) v':=by
 have hb:=hI.blk s i B hB
 have h63':((B.els.length+els2.length:Nat):Int)≤9223372036854775807:=by simp only [maxLen]at h63; omega
 subst hty
 rw [←hzz]at hsrc
 have newcells:∀(old:List Value) (tail:Array Value),old.length=B.els.length * B.z→
   (∀e j row c,B.els[e]?=some row→row[j]?=some c→∃u,old[e * B.z+j]?=some u∧u.oneCell'=true∧RV w A X c u∧(B.cl=true→PV w A c u))→
   ∀e j row c,(B.els++els2)[e]?=some row→row[j]?=some c→∃u,(old++news++tail.toList)[e * B.z+j]?=some u∧u.oneCell'=true∧RV w A X c u∧((B.cl && cl2)=true→PV w A c u):=by
  intro old tail hol hold e j row c he hj
  rcases rows_get els2 he with⟨hlt,he'⟩|⟨hge,he'⟩
  ·obtain⟨u,g1,g2,g3,g4⟩:=hold e j row c he' hj
   refine⟨u,?_,g2,g3,fun hcl=>g4 (by simp at hcl; exact hcl.1)⟩
   have:e * B.z+j<old.length:=(List.getElem?_eq_some_iff.1 g1).1
   rw [List.append_assoc,List.getElem?_append_left this]; exact g1
  ·obtain⟨u,g1,g3,g4⟩:=hsrc.cells _ j row c he' hj
   rw [hzz]at g1
   refine⟨u,?_,hsrc.one u (List.mem_of_getElem? g1),g3,fun hcl=>g4 (by simp at hcl; exact hcl.2)⟩
   have hidx:e * B.z+j=old.length+((e - B.els.length) * B.z+j):=by
    rw [hol,Nat.sub_mul]
    have:=Nat.mul_le_mul_right B.z hge
    omega
   have hlt:(e - B.els.length) * B.z+j<news.length:=(List.getElem?_eq_some_iff.1 g1).1
   rw [List.append_assoc,hidx,List.getElem?_append_right (by omega),List.getElem?_append_left (by omega)]
   rw [show old.length+((e - B.els.length) * B.z+j) - old.length=(e - B.els.length) * B.z+j by omega]
   exact g1
 have newrows:∀row∈B.els++els2,row.length=B.z:=by
  intro row hr
  rcases List.mem_append.1 hr with hr|hr
  ·exact hb.rows row hr
  ·rw [hsrc.rows row hr,hzz]
 have fresh:∀(cap:Nat) (old:List Value),cap≤maxLen→B.els.length+els2.length≤cap→(X.D s i).len<B.els.length+els2.length→old.length=B.els.length * B.z→
   (∀e j row c,B.els[e]?=some row→row[j]?=some c→∃u,old[e * B.z+j]?=some u∧u.oneCell'=true∧RV w A X c u∧(B.cl=true→PV w A c u))→
   ∃A' X',Later w A (w.drew.alloc (.cells (old.toArray++news.toArray++Builtin.zeroCells zv.cells (cap - (B.els.length+els2.length))) B.ty)) A'∧Xle X X'∧
    Inv F (w.drew.alloc (.cells (old.toArray++news.toArray++Builtin.zeroCells zv.cells (cap - (B.els.length+els2.length))) B.ty)) A' X' (hset h s i {B with els:=B.els++els2,cl:=B.cl && cl2})∧
    RV (w.drew.alloc (.cells (old.toArray++news.toArray++Builtin.zeroCells zv.cells (cap - (B.els.length+els2.length))) B.ty)) A' X' (.bsl s i (B.els.length+els2.length)) (.slice (some ⟨w.heap.size,0,none⟩) (B.els.length+els2.length) cap):=by
  intro cap old hcm hcap hlen hol hold
  have hcellsz:(old.toArray++news.toArray++Builtin.zeroCells zv.cells (cap - (B.els.length+els2.length))).size=cap * B.z:=by
   simp only [Array.size_append,List.size_toArray,size_zeroCells,hzs,hol,hsrc.len,hzz,←Nat.add_mul]
   congr 1; omega
  have ht:=hI.turn2 (B':={B with els:=B.els++els2,cl:=B.cl && cl2}) (w':=w.drew.alloc (.cells (old.toArray++news.toArray++Builtin.zeroCells zv.cells (cap - (B.els.length+els2.length))) B.ty))
   (A':=fun b=>A b∨b=w.heap.size) (d':={b:=w.heap.size,z:=B.z,len:=B.els.length+els2.length,v:=.slice (some ⟨w.heap.size,0,none⟩) (B.els.length+els2.length) cap}) hB (by simp) rfl rfl rfl hfz
   (fun b hlt _=>Below.heap_alloc w.drew _ b hlt) (fun b hA=>.inl hA) (fun b hA=>by rcases hA with hA|rfl; exact .inl hA; exact .inr ⟨Nat.le_refl _,by simp⟩) (.inr hlen) (fun _=>.inr (Nat.le_refl _)) ?_
  ·refine⟨_,_,ht.1,ht.2.1,ht.2.2,?_⟩
   refine .bsl s i _ _ _ (by simpa [Refs.put]using hb.hN) (by rw [Refs.put_same]; exact Nat.le_refl _) (fun _=>by rw [Refs.put_same])
  ·intro hL hX
   refine {hN:=by simpa [Refs.put]using hb.hN,hz:=by rw [Refs.put_same],hlen:=by rw [Refs.put_same]; simp,rows:=newrows,mem:=.inr ⟨_,cap,?_,by rw [Refs.put_same]; simp,by simpa using hcap,hcm,by rw [Refs.put_same,hcellsz,Nat.zero_add]; exact Nat.le_refl _,?_,?_,?_⟩}
   ·rw [Refs.put_same]; exact heap_alloc_new w.drew _
   ·intro e j row c he hj
    obtain⟨u,g1,g2,g3,g4⟩:=newcells old (Builtin.zeroCells zv.cells (cap - (B.els.length+els2.length))) hol hold e j row c he hj
    refine⟨u,?_,g2,g3.mono hL hX,fun hcl=>(g4 hcl).mono hL⟩
    rw [Refs.put_same,←Array.getElem?_toList]
    simpa using g1
   ·rw [show({B with els:=B.els++els2,cl:=B.cl && cl2}:Blk).fz=false from hfz]; simp
   ·intro _; rw [Refs.put_same]; exact⟨.inr rfl,.inr hI.size⟩
 rcases hb.mem with⟨hv,hels⟩|⟨arr,cap,h1,h2,h3,h4,h5,h6,h7,h8⟩
 ·have hlen0:(X.D s i).len=0:=by rw [hb.hlen,hels]; rfl
  by_cases hm:els2.length=0
  ·have he2:els2=[]:=List.eq_nil_of_length_eq_zero hm
   subst he2
   refine⟨.slice none 0 0,w,A,X,?_,Later.refl w A,Xle.refl X,?_,?_⟩
   ·rw [hv]; exact run_append_src_nil0 P T ty _ ti ht hi hsrc rfl
   ·have hz:hset h s i {B with els:=B.els++[],cl:=B.cl && cl2}=hset h s i {B with cl:=B.cl && cl2}:=by rw [List.append_nil]
    rw [hz]
    have hh:=(hI.turn2 (B':={B with cl:=B.cl && cl2}) (d':=X.D s i) (A':=A) hB (Nat.le_refl _) rfl rfl rfl hfz (fun _ _ _=>rfl) (fun _ hA=>hA) (fun _ hA=>.inl hA) (.inl rfl) (fun hr=>absurd hv hr) (by
     intro _ _
     refine {hN:=by simpa [Refs.put]using hb.hN,hz:=by rw [Refs.put_same]; exact hb.hz,hlen:=by rw [Refs.put_same]; exact hb.hlen,rows:=hb.rows,mem:=.inl ⟨by rw [Refs.put_same]; exact hv,hels⟩})).2.2
    have hX:X.put s i (X.D s i)=X:=by
     unfold Refs.put
     congr 1
     funext s' i'
     split
     ·rename_i hc; rw [hc.1,hc.2]
     ·rfl
    rw [hX]at hh; exact hh
   ·rw [hels]
    exact .bsl s i 0 none 0 hb.hN (Nat.zero_le _) (fun _=>hv.symm)
  ·have hr:=run_append_src_nil P T ty _ ti zv ht hi hzv hsrc (by omega) (by omega) (by have:=hbytes; rw [hels]at this; simp at this; omega)
   rw [hels]at hbytes h63 fresh
   simp only [List.length_nil,Nat.zero_add,Nat.zero_mul,List.nil_append]at fresh h63
   obtain⟨A',X',f1,f2,f3,f4⟩:=fresh (grownCap w els2.length 0 B.ty) [] (grownCap_le_maxLen w _ 0 B.ty h63) (grownCap_ge w _ 0 B.ty) (by omega) (by simp) (by intro e j row c he; simp at he)
   simp only [List.toArray,Array.empty_append]at f1 f3 f4
   refine⟨_,_,A',X',by rw [hv]; exact hr,?_,f2,?_,?_⟩
   ·simpa using f1
   ·rw [hels]; simpa using f3
   ·rw [hels]; simpa using f4
 ·have hlen0:(X.D s i).len=B.els.length:=hb.hlen
  have hel:B.els.length * B.z≤cap * B.z:=Nat.mul_le_mul_right _ h3
  by_cases hroom:B.els.length+els2.length≤cap
  ·have hfit:(X.D s i).o+B.els.length * ti.size+news.length≤arr.size:=by
    have:=Nat.mul_le_mul_right B.z hroom
    rw [Nat.add_mul]at this
    rw [hsrc.len,hzz]; omega
   have hr:=run_append_src_room P T ty _ ti ht hi (X.D s i).b (X.D s i).o B.els.length cap arr h1 hsrc hroom hfit
   rw [hzz]at hr hfit
   have hal:(X.D s i).o+B.els.length * B.z+news.length≤arr.toList.length:=by simpa using hfit
   have hreal:(X.D s i).real:=by unfold Hd.real; rw [h2]; simp
   have hlenor:({b:=(X.D s i).b,z:=B.z,len:=B.els.length+els2.length,v:=.slice (some ⟨(X.D s i).b,(X.D s i).o,none⟩) (B.els.length+els2.length) cap,o:=(X.D s i).o}:Hd)=X.D s i∨(X.D s i).len<B.els.length+els2.length:=by
    by_cases hm:els2.length=0
    ·left
     have hz':=hb.hz
     rw [hm,Nat.add_zero]
     cases hd:X.D s i with
     | mk b z len v o=>
      rw [hd]at h2 hlen0 hz'
      simp only at h2 hlen0 hz'
      subst hlen0 hz' h2
      rfl
    ·right; omega
   have ht:=hI.turn2 (B':={B with els:=B.els++els2,cl:=B.cl && cl2}) (w':=w.setRow (X.D s i).b (arr.toList.take ((X.D s i).o+B.els.length * B.z)++news++arr.toList.drop ((X.D s i).o+B.els.length * B.z+news.length)).toArray)
    (A':=A) (d':={b:=(X.D s i).b,z:=B.z,len:=B.els.length+els2.length,v:=.slice (some ⟨(X.D s i).b,(X.D s i).o,none⟩) (B.els.length+els2.length) cap,o:=(X.D s i).o}) hB (by simp) rfl rfl rfl hfz
    (fun b _ hne=>setRow_other w _ b _ (hne hreal)) (fun _ hA=>hA) (fun _ hA=>.inl hA) hlenor (fun _=>.inl ⟨hreal,rfl⟩) ?_
   ·refine⟨_,_,_,_,by rw [h2]; exact hr,ht.1,ht.2.1,ht.2.2,?_⟩
    exact .bsl s i _ _ _ (by simpa [Refs.put]using hb.hN) (by rw [Refs.put_same]; exact Nat.le_refl _) (fun _=>by rw [Refs.put_same])
   ·intro hL hX
    refine {hN:=by simpa [Refs.put]using hb.hN,hz:=by rw [Refs.put_same],hlen:=by rw [Refs.put_same]; simp,rows:=newrows,mem:=.inr ⟨(arr.toList.take ((X.D s i).o+B.els.length * B.z)++news++arr.toList.drop ((X.D s i).o+B.els.length * B.z+news.length)).toArray,cap,?_,by rw [Refs.put_same]; simp,by simpa using hroom,h4,?_,?_,?_,?_⟩}
    ·rw [Refs.put_same]; exact setRow_heap w _ arr _ B.ty _ h1
    ·rw [Refs.put_same]
     simp only [List.size_toArray,List.length_append,List.length_take,List.length_drop,Array.length_toList]
     simp at hal; omega
    ·intro e j row c he hj
     rw [Refs.put_same]
     have hold:∀e j row c,B.els[e]?=some row→row[j]?=some c→∃u,((arr.toList.drop (X.D s i).o).take (B.els.length * B.z))[e * B.z+j]?=some u∧u.oneCell'=true∧RV w A X c u∧(B.cl=true→PV w A c u):=by
      intro e j row c he hj
      obtain⟨u,g1,g2,g3,g4⟩:=h6 e j row c he hj
      refine⟨u,?_,g2,g3,g4⟩
      have hjz:j<B.z:=by rw [←hb.rows row (List.mem_of_getElem? he)]; exact(List.getElem?_eq_some_iff.1 hj).1
      rw [List.getElem?_take_of_lt (idx_lt (List.getElem?_eq_some_iff.1 he).1 hjz),List.getElem?_drop,←Nat.add_assoc]
      simpa using g1
     obtain⟨u,g1,g2,g3,g4⟩:=newcells _ (arr.toList.drop ((X.D s i).o+B.els.length * B.z+news.length)).toArray (by rw [List.length_take,List.length_drop,Array.length_toList]; simp at hal; omega) hold e j row c he hj
     refine⟨u,?_,g2,g3.mono hL hX,fun hcl=>(g4 hcl).mono hL⟩
     have hsplit:arr.toList.take ((X.D s i).o+B.els.length * B.z)=arr.toList.take (X.D s i).o++(arr.toList.drop (X.D s i).o).take (B.els.length * B.z):=List.take_add ..
     simp only [List.getElem?_toArray]
     rw [hsplit,List.append_assoc,List.append_assoc,List.getElem?_append_right (by rw [List.length_take]; omega),List.length_take,←List.append_assoc]
     have hmin:min (X.D s i).o arr.toList.length=(X.D s i).o:=by omega
     rw [hmin,show(X.D s i).o+e * B.z+j - (X.D s i).o=e * B.z+j by omega]
     simpa using g1
    ·rw [show({B with els:=B.els++els2,cl:=B.cl && cl2}:Blk).fz=false from hfz]; simp
    ·intro _; rw [Refs.put_same]; exact h8 hfz
  ·have holds:∀j v,((arr.toList.drop (X.D s i).o).take (B.els.length * ti.size))[j]?=some v→w.cell? ((⟨(X.D s i).b,(X.D s i).o,none⟩:Addr).add j)=some v:=by
    intro j v hj
    rw [addr_add]
    have hlt:j<B.els.length * ti.size:=by
     have:=(List.getElem?_eq_some_iff.1 hj).1; rw [List.length_take]at this; omega
    rw [List.getElem?_take_of_lt hlt,List.getElem?_drop]at hj
    have hj':arr[(X.D s i).o+j]?=some v:=by simpa using hj
    simp [World.cell?,h1,hj']
   have hr:=run_append_src_grow P T ty _ ti zv ht hi hzv ⟨(X.D s i).b,(X.D s i).o,none⟩ B.els.length cap ((arr.toList.drop (X.D s i).o).take (B.els.length * ti.size)) (by rw [List.length_take,List.length_drop,Array.length_toList,hzz]; omega) holds hsrc (by omega) h63' (growslice_fits (by omega) hbytes)
   have hold:∀e j row c,B.els[e]?=some row→row[j]?=some c→∃u,((arr.toList.drop (X.D s i).o).take (B.els.length * ti.size))[e * B.z+j]?=some u∧u.oneCell'=true∧RV w A X c u∧(B.cl=true→PV w A c u):=by
    intro e j row c he hj
    obtain⟨u,g1,g2,g3,g4⟩:=h6 e j row c he hj
    refine⟨u,?_,g2,g3,g4⟩
    have hjz:j<B.z:=by rw [←hb.rows row (List.mem_of_getElem? he)]; exact(List.getElem?_eq_some_iff.1 hj).1
    rw [hzz,List.getElem?_take_of_lt (idx_lt (List.getElem?_eq_some_iff.1 he).1 hjz),List.getElem?_drop,←Nat.add_assoc]
    simpa using g1
   obtain⟨A',X',f1,f2,f3,f4⟩:=fresh (grownCap w (B.els.length+els2.length) cap B.ty) _ (grownCap_le_maxLen w _ cap B.ty h63) (grownCap_ge w _ cap B.ty) (by omega) (by rw [List.length_take,List.length_drop,Array.length_toList,hzz]; omega) hold
   exact⟨_,_,A',X',by rw [h2]; exact hr,f1,f2,f3,f4⟩
theorem Inv.appendIn (P:Program) (hI:Inv F w A X h) {s i:Nat} {B:Blk} (hB:hget h s i=some B) (hfz:B.fz=false) {T ty e:TypeId} {ti:TypeInfo} (ht:P.underlying T=some (.slice e)) (hi:P.info? e=some ti)
  (hty:B.ty=e) (hzz:ti.size=B.z) {x:Value} {els2:List (List V)} {cl2:Bool} {news:List Value} (hsrc:Src P w A X B.z x els2 cl2 news) {len cap c:Nat} (hcc:cap≤c) (hne:B.els≠[]) (hroom:len+els2.length≤cap) (hcap:cap≤B.els.length) :
  ∃w',(Builtin.append_ #[T,T] ty #[.slice (some ⟨(X.D s i).b,(X.D s i).o,none⟩) len c,x]).run P w=.ok (.slice (some ⟨(X.D s i).b,(X.D s i).o,none⟩) (len+els2.length) c) w'∧Later w A w' A∧
   Inv F w' A X (hset h s i {B with els:=B.els.take len++els2++B.els.drop (len+els2.length),cl:=B.cl && cl2}):=by
 have hb:=hI.blk s i B hB
 have hreal:=hb.real hne
 rcases hb.mem with hm|⟨arr,cap',h1,h2,h3,h4,h5,h6,h7,h8⟩
 ·exact absurd hm.2 hne
 subst hty
 have hel:(len+els2.length) * B.z≤cap' * B.z:=Nat.mul_le_mul_right _ (by omega)
 have hal:(X.D s i).o+len * B.z+news.length≤arr.toList.length:=by have e1:arr.toList.length=arr.size:=Array.length_toList; have e2:=hsrc.len; rw [Nat.add_mul]at hel; omega
 have hsrc':=hsrc
 rw [←hzz]at hsrc'
 have hr:=run_append_src_room P T ty _ ti ht hi (X.D s i).b (X.D s i).o len c arr h1 hsrc' (by omega) (by rw [hzz]; simpa using hal)
 rw [hzz]at hr
 refine⟨_,hr,hI.turn hB (by simp [World.setRow]) rfl rfl rfl hfz hreal (fun b hbne=>setRow_other w _ b _ hbne) ?_⟩
 intro hL
 have hlen:(B.els.take len++els2++B.els.drop (len+els2.length)).length=B.els.length:=by
  simp only [List.length_append,List.length_take,List.length_drop]; omega
 refine {hN:=hb.hN,hz:=hb.hz,hlen:=by rw [hb.hlen]; exact hlen.symm,rows:=?_,mem:=.inr ⟨_,cap',setRow_heap w _ arr _ B.ty _ h1,by simp only [hlen]; exact h2,by simp only [hlen]; exact h3,h4,?_,?_,h7,h8⟩}
 ·intro row hrow
  simp only [List.mem_append]at hrow
  rcases hrow with(hrow|hrow)|hrow
  ·exact hb.rows row (List.mem_of_mem_take hrow)
  ·exact hsrc.rows row hrow
  ·exact hb.rows row (List.mem_of_mem_drop hrow)
 ·simp only [List.size_toArray,List.length_append,List.length_take,List.length_drop,Array.length_toList]
  simp at hal; omega
 ·intro e' j' row c he' hj'
  simp only at he'
  simp only [List.getElem?_toArray]
  rw [seg_get _ _ _ _ hal]
  rw [List.getElem?_append,List.getElem?_append]at he'
  simp only [List.length_append,List.length_take]at he'
  have hmin:min len B.els.length=len:=by omega
  rw [hmin]at he'
  by_cases c1:e'<len
  ·rw [if_pos (by omega),if_pos c1,List.getElem?_take_of_lt c1]at he'
   obtain⟨u,g1,g2,g3,g4⟩:=h6 e' j' row c he' hj'
   have hj2:j'<B.z:=by rw [←hb.rows row (List.mem_of_getElem? he')]; exact(List.getElem?_eq_some_iff.1 hj').1
   refine⟨u,?_,g2,g3.mono hL (Xle.refl X),fun hcl=>(g4 (by simp at hcl; exact hcl.1)).mono hL⟩
   have:=idx_lt c1 hj2
   rw [if_pos (by omega)]; simpa using g1
  ·by_cases c2:e'<len+els2.length
   ·rw [if_pos c2,if_neg c1]at he'
    obtain⟨u,g1,g3,g4⟩:=hsrc.cells _ j' row c he' hj'
    have hj2:j'<B.z:=by rw [←hsrc.rows row (List.mem_of_getElem? he')]; exact(List.getElem?_eq_some_iff.1 hj').1
    have k1:len * B.z≤e' * B.z:=Nat.mul_le_mul_right _ (by omega)
    have k2:(e' - len) * B.z=e' * B.z - len * B.z:=Nat.sub_mul ..
    have k3:(e' - len) * B.z+j'<news.length:=(List.getElem?_eq_some_iff.1 g1).1
    refine⟨u,?_,hsrc.one u (List.mem_of_getElem? g1),g3.mono hL (Xle.refl X),fun hcl=>(g4 (by simp at hcl; exact hcl.2)).mono hL⟩
    rw [if_neg (by omega),if_pos (by omega),show(X.D s i).o+e' * B.z+j' - ((X.D s i).o+len * B.z)=(e' - len) * B.z+j' by omega]
    exact g1
   ·rw [if_neg c2,List.getElem?_drop,show len+els2.length+(e' - (len+els2.length))=e' by omega]at he'
    obtain⟨u,g1,g2,g3,g4⟩:=h6 e' j' row c he' hj'
    have k1:(len+els2.length) * B.z≤e' * B.z:=Nat.mul_le_mul_right _ (by omega)
    rw [Nat.add_mul,←hsrc.len]at k1
    refine⟨u,?_,g2,g3.mono hL (Xle.refl X),fun hcl=>(g4 (by simp at hcl; exact hcl.1)).mono hL⟩
    rw [if_neg (by omega),if_neg (by omega)]; simpa using g1
end
end Go.Sx
end
end
