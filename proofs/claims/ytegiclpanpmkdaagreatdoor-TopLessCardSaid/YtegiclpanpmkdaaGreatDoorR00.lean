/- A part of a proof; no conditions. -/
import Derived.WalkKit
set_option linter.all false
set_option maxRecDepth 100000
set_option maxHeartbeats 8000000
noncomputable section
section
namespace Go.Sx
open Go.RowKit
inductive V where
 | top
 | int (k:IntKind) (n:Int)
 | bool (b:Bool)
 | agg (cs:List V)
 | dB (vs:List V)
 | nil
 | lg
 | oN
 | sl (z:Nat) (els:List (List V))
 | ip (z:Nat) (els:List (List V)) (e j:Nat)
 | bw (s i n:Nat)
 | bG (s i n e j:Nat)
 | gY (s i n off len cap:Nat)
 | fn (f:Nat) (caps:List V)
 | vW (l:Nat)
 | emp
 | qT
 deriving Inhabited
abbrev gC:Value:=undef
inductive PV (w:World) (A:Nat->Prop):V->Value->Prop
 | top (v:Value):PV w A .top v
 | int (k:IntKind) (n:Int):PV w A (.int k n) (.int k n)
 | bool (b:Bool):PV w A (.bool b) (.bool b)
 | nil:PV w A .nil (.slice none 0 0)
 | lg:PV w A .lg (.pointer none)
 | oN:PV w A .oN .nilFunc
 | vW (l:Nat):PV w A (.vW l) (.func (.yield l) #[] #[])
 | emp (a:Addr):PV w A .emp (.slice (some a) 0 0)
 | qT (b:Bool):PV w A .qT (.bool b)
 | agg (cs:List V) (us:Array Value) (hl:us.size=cs.length) (h:∀i c,cs[i]?=some c->PV w A c (us.getD i gC)):PV w A (.agg cs) (.agg us)
 | dB (cs:List V) (us:Array Value) (hl:us.size=cs.length) (h:∀i c,cs[i]?=some c->PV w A c (us.getD i gC)):PV w A (.dB cs) (.tuple us)
 | fn (f:Nat) (cs:List V) (us:Array Value) (hl:us.size=cs.length) (h:∀i c,cs[i]?=some c->PV w A c (us.getD i gC)):PV w A (.fn f cs) (.func (.func f) #[] us)
 | xV (z:Nat) (a:Option Addr) (cap:Nat):PV w A (.sl z []) (.slice a 0 cap)
 | sl (z:Nat) (els:List (List V)) (b off cap:Nat) (u:Nat->Nat->Value) (v8:els.length<=cap) (hb:b<w.heap.size) (hA:¬ A b) (hz:∀row∈els,row.length=z)
   (hc:∀e j row c,els[e]?=some row->row[j]?=some c->w.cell? ⟨b,off+e * z+j,none⟩=some (u e j)/\(u e j).oneCell'=true)
   (h:∀e j row c,els[e]?=some row->row[j]?=some c->PV w A c (u e j)):PV w A (.sl z els) (.slice (some ⟨b,off,none⟩) els.length cap)
 | ip (z:Nat) (els:List (List V)) (e0 j0:Nat) (b off:Nat) (u:Nat->Nat->Value) (hb:b<w.heap.size) (hA:¬ A b) (hz:∀row∈els,row.length=z)
   (hc:∀e j row c,els[e]?=some row->row[j]?=some c->w.cell? ⟨b,off+e * z+j,none⟩=some (u e j)/\(u e j).oneCell'=true)
   (h:∀e j row c,els[e]?=some row->row[j]?=some c->PV w A c (u e j)):PV w A (.ip z els e0 j0) (.pointer (some ⟨b,off+e0 * z+j0,none⟩))
def bC(w:World)(A:Nat->Prop)(w':World)(A':Nat->Prop):Prop:=
 w.heap.size<=w'.heap.size/\∀b,b<w.heap.size->¬ A b->w'.heap[b]?=w.heap[b]?/\¬ A' b
theorem bC.refl(w:World)(A:Nat->Prop):bC w A w A:=⟨Nat.le_refl _,fun _ _ h=>⟨rfl,h⟩⟩
theorem bC.trans{w w' w'':World}{A A' A'':Nat->Prop}(h:bC w A w' A')(k:bC w' A' w'' A''):bC w A w'' A'':=
 ⟨Nat.le_trans h.1 k.1,fun b hb hA=>
  have h1:=h.2 b hb hA;have h2:=k.2 b (Nat.lt_of_lt_of_le hb h.1) h1.2
  ⟨h2.1.trans h1.1,h2.2⟩⟩
theorem PV.mono{w w':World}{A A':Nat->Prop}(hL:bC w A w' A'){x:V}{v:Value}(h:PV w A x v):PV w' A' x v:=by
 induction h with
 | top v=>exact .top v
 | int k n=>exact .int k n
 | bool b=>exact .bool b
 | nil=>exact .nil
 | lg=>exact .lg
 | oN=>exact .oN
 | vW l=>exact .vW l
 | emp a=>exact .emp a
 | qT b=>exact .qT b
 | agg cs us hl _ ih=>exact .agg cs us hl ih
 | dB cs us hl _ ih=>exact .dB cs us hl ih
 | fn f cs us hl _ ih=>exact .fn f cs us hl ih
 | xV z a cap=>exact .xV z a cap
 | sl z els b off cap u v8 hb hA hz hc _ ih=>
  have h1:=hL.2 b hb hA;refine .sl z els b off cap u v8 (Nat.lt_of_lt_of_le hb hL.1) h1.2 hz (fun e j row c he hj=>?_) ih;rw [World.cell?_of_block (w:=w) h1.1];exact hc e j row c he hj
 | ip z els e0 j0 b off u hb hA hz hc _ ih=>
  have h1:=hL.2 b hb hA;refine .ip z els e0 j0 b off u (Nat.lt_of_lt_of_le hb hL.1) h1.2 hz (fun e j row c he hj=>?_) ih;rw [World.cell?_of_block (w:=w) h1.1];exact hc e j row c he hj
abbrev YS:Nat:=999999999
structure Hd where
 b:Nat
 z:Nat
 len:Nat
 v:Value
 o:Nat:=0
def Hd.cap(d:Hd):Nat:=match d.v with|.slice _ _ c=>c|_=>0
structure Refs where
 D:Nat->Nat->Hd
 N:Nat->Nat
def fH(X X':Refs):Prop:=∀s i,i<X.N s->i<X'.N s/\(X'.D s i=X.D s i\/(X.D s i).len<(X'.D s i).len)
theorem fH.refl(X:Refs):fH X X:=fun _ _ h=>⟨h,.inl rfl⟩
theorem fH.trans{X Y Z:Refs}(h:fH X Y)(k:fH Y Z):fH X Z:=fun s i hi=>by
 obtain⟨h1,h2⟩:=h s i hi;obtain⟨k1,k2⟩:=k s i h1;refine⟨k1,?_⟩;rcases h2 with h2|h2<;>rcases k2 with k2|k2
 ·exact .inl (k2.trans h2)
 ·exact .inr (by rw [<-h2];exact k2)
 ·exact .inr (by rw [k2];exact h2)
 ·exact .inr (Nat.lt_trans h2 k2)
inductive RV (w:World) (A:Nat->Prop) (X:Refs):V->Value->Prop
 | pure {x:V} {v:Value} (h:PV w A x v):RV w A X x v
 | agg (cs:List V) (us:Array Value) (hl:us.size=cs.length) (h:∀i c,cs[i]?=some c->RV w A X c (us.getD i gC)):RV w A X (.agg cs) (.agg us)
 | dB (cs:List V) (us:Array Value) (hl:us.size=cs.length) (h:∀i c,cs[i]?=some c->RV w A X c (us.getD i gC)):RV w A X (.dB cs) (.tuple us)
 | fn (f:Nat) (cs:List V) (us:Array Value) (hl:us.size=cs.length) (h:∀i c,cs[i]?=some c->RV w A X c (us.getD i gC)):RV w A X (.fn f cs) (.func (.func f) #[] us)
 | bw (s i n:Nat) (a:Option Addr) (c:Nat) (hN:i<X.N s) (hn:n<=(X.D s i).len) (hv:n=(X.D s i).len->.slice a n c=(X.D s i).v):RV w A X (.bw s i n) (.slice a n c)
 | bG (s i n e j:Nat) (a:Addr) (hN:i<X.N s) (hn:n<=(X.D s i).len) (hv:n=(X.D s i).len->a=⟨(X.D s i).b,(X.D s i).o+e * (X.D s i).z+j,none⟩):RV w A X (.bG s i n e j) (.pointer (some a))
 | gY (s i n off len cap:Nat) (a:Addr) (c:Nat) (mK:cap<=c) (hN:i<X.N s) (hn:n<=(X.D s i).len) (hv:n=(X.D s i).len->a=⟨(X.D s i).b,(X.D s i).o+off * (X.D s i).z,none⟩/\off+c<=(X.D s i).cap):RV w A X (.gY s i n off len cap) (.slice (some a) len c)
theorem RV.mono{w w':World}{A A':Nat->Prop}{X X':Refs}(hL:bC w A w' A')(hX:fH X X'){x:V}{v:Value}(h:RV w A X x v):RV w' A' X' x v:=by
 induction h with
 | pure h=>exact .pure (h.mono hL)
 | agg cs us hl _ ih=>exact .agg cs us hl ih
 | dB cs us hl _ ih=>exact .dB cs us hl ih
 | fn f cs us hl _ ih=>exact .fn f cs us hl ih
 | bw s i n a c hN hn hv=>
  obtain⟨h1,h2⟩:=hX s i hN;rcases h2 with h2|h2
  ·exact .bw s i n a c h1 (by rw [h2];exact hn) (by rw [h2];exact hv)
  ·exact .bw s i n a c h1 (by omega) (fun e=>by omega)
 | bG s i n e j a hN hn hv=>
  obtain⟨h1,h2⟩:=hX s i hN;rcases h2 with h2|h2
  ·exact .bG s i n e j a h1 (by rw [h2];exact hn) (by rw [h2];exact hv)
  ·exact .bG s i n e j a h1 (by omega) (fun e=>by omega)
 | gY s i n off len cap a c mK hN hn hv=>
  obtain⟨h1,h2⟩:=hX s i hN;rcases h2 with h2|h2
  ·exact .gY s i n off len cap a c mK h1 (by rw [h2];exact hn) (by rw [h2];exact hv)
  ·exact .gY s i n off len cap a c mK h1 (by omega) (fun e=>by omega)
structure dZ where
 z:Nat
 els:List (List V)
 ty:TypeId
 fz:Bool:=false
 cl:Bool:=true
structure Site where
 base:Nat
 ah:List dZ
 fl:Bool:=false
abbrev Hp:=Nat->Site
def aL(h:Hp)(s i:Nat):Option dZ:=if i<(h s).base then none else (h s).ah[i - (h s).base]?
def bE(h:Hp)(s i:Nat)(B:dZ)(s':Nat):Site:=if s'=s then {h s with ah:=(h s).ah.set (i - (h s).base) B}else h s'
def hnext(h:Hp)(s:Nat):Nat:=(h s).base+(h s).ah.length
def bD(h:Hp)(s:Nat)(B:dZ)(s':Nat):Site:=if s'=s then {h s with ah:=(h s).ah++[B]}else h s'
theorem dI(h:Hp)(s:Nat)(B:dZ):aL (bD h s B) s (hnext h s)=some B:=by simp [aL,bD,hnext]
theorem eL(h:Hp)(s s' i:Nat)(B:dZ)(v3:s'=s->i≠hnext h s):aL (bD h s B) s' i=aL h s' i:=by
 unfold aL bD;by_cases hs:s'=s
 ·subst hs;simp only [if_true];by_cases hb:i<(h s').base
  ·simp [hb]
  ·have h2:=v3 rfl;simp only [hb,if_false];rw [List.getElem?_append];split
   ·rfl
   ·rename_i h3;have:(h s').ah.length<i - (h s').base:=(by simp only [hnext]at h2;omega);rw [List.getElem?_eq_none (by simp;omega),List.getElem?_eq_none (by omega)]
 ·simp [hs]
theorem JM{h:Hp}{s i:Nat}{B:dZ}(hg:aL h s i=some B):i<hnext h s:=by
 unfold aL at hg;split at hg
 ·simp at hg
 ·have:=(List.getElem?_eq_some_iff.1 hg).1;unfold hnext;omega
theorem gH{h:Hp}{s i:Nat}{B B':dZ}(hg:aL h s i=some B):aL (bE h s i B') s i=some B':=by
 unfold aL at hg;split at hg
 ·simp at hg
 ·rename_i hb;have:=(List.getElem?_eq_some_iff.1 hg).1;simp [aL,bE,hb,this]
theorem eW(h:Hp){s i s' i':Nat}(B':dZ)(v3:¬ (s'=s/\i'=i))(hi:(h s).base<=i):aL (bE h s i B') s' i'=aL h s' i':=by
 unfold aL bE;by_cases hs:s'=s
 ·subst hs;simp only [if_true];by_cases hb:i'<(h s').base
  ·simp [hb]
  ·have:i'≠i:=fun e=>v3 ⟨rfl,e⟩;simp only [hb,if_false];rw [List.getElem?_set_ne (by omega)]
 ·simp [hs]
theorem kS{h:Hp}{s i:Nat}{B:dZ}(hg:aL h s i=some B):(h s).base<=i:=by
 unfold aL at hg;split at hg
 ·simp at hg
 ·omega
theorem vo(h:Hp)(s i s':Nat)(B:dZ):hnext (bE h s i B) s'=hnext h s':=by
 unfold hnext bE;by_cases hs:s'=s
 ·subst hs;simp
 ·simp [hs]
theorem sB(h:Hp)(s s':Nat)(B:dZ):hnext (bD h s B) s'=hnext h s'+if s'=s then 1 else 0:=by
 unfold hnext bD;by_cases hs:s'=s
 ·subst hs;simp;omega
 ·simp [hs]
def tV(h:Hp)(s i s':Nat):Site:=if s'=s then {h s with base:=max (h s).base (i+1),ah:=(h s).ah.drop (i+1 - (h s).base)}else h s'
theorem UI(h:Hp)(s i s' i':Nat):aL (tV h s i) s' i'=if s'=s/\i'<=i then none else aL h s' i':=by
 unfold aL tV;by_cases hs:s'=s
 ·subst hs;simp only [if_true,true_and];by_cases hi:i'<=i
  ·rw [if_pos (by omega),if_pos hi]
  ·rw [if_neg hi];by_cases hb:i'<(h s').base
   ·rw [if_pos (by omega),if_pos hb]
   ·rw [if_neg (by omega),if_neg hb,List.getElem?_drop];congr 1;omega
 ·simp [hs]
theorem BO{h:Hp}{s i:Nat}(hi:i<hnext h s)(s':Nat):hnext (tV h s i) s'=hnext h s':=by
 unfold hnext at hi;unfold hnext tV;by_cases hs:s'=s
 ·subst hs;simp only [if_true,List.length_drop];omega
 ·simp [hs]
structure Fr where
 w0:World
 A0:Nat->Prop
 X0:Refs
 M:Nat->Prop
structure BOK (F:Fr) (w:World) (A:Nat->Prop) (X:Refs) (s i:Nat) (B:dZ):Prop where
 hN:i<X.N s
 hz:(X.D s i).z=B.z
 hlen:(X.D s i).len=B.els.length
 rows:∀row∈B.els,row.length=B.z
 mem:((X.D s i).v=.slice none 0 0/\B.els=[])\/
  ∃arr cap,w.heap[(X.D s i).b]?=some (.cells arr B.ty (0,0))/\(X.D s i).v=.slice (some ⟨(X.D s i).b,(X.D s i).o,none⟩) B.els.length cap/\B.els.length<=cap/\cap<=maxLen/\
   (X.D s i).o+cap * B.z<=arr.size/\
   (∀e j row c,B.els[e]?=some row->row[j]?=some c->∃u,arr[(X.D s i).o+e * B.z+j]?=some u/\u.oneCell'=true/\RV w A X c u/\(B.cl=true->PV w A c u))/\
   (B.fz=true->¬ A (X.D s i).b)/\(B.fz=false->A (X.D s i).b/\(F.M (X.D s i).b\/F.w0.heap.size<=(X.D s i).b))
def Hd.real(d:Hd):Prop:=d.v≠.slice none 0 0
class aO where
 G:Nat->Option V
variable [aO]
def GOK(w:World)(A:Nat->Prop):Prop:=∀g v,aO.G g=some v->PV w A v (.pointer (some ⟨g,0,none⟩))
theorem GOK.mono{w w':World}{A A':Nat->Prop}(h:GOK w A)(hL:bC w A w' A'):GOK w' A':=fun g v hg=>(h g v hg).mono hL
structure Inv (F:Fr) (w:World) (A:Nat->Prop) (X:Refs) (h:Hp):Prop where
 gl:GOK w A
 oV:∀b,A b->b<w.heap.size
 iE:∀b,b<F.w0.heap.size->A b->F.A0 b
 ep:∀b,b<F.w0.heap.size->F.A0 b->¬ F.M b->A b
 os:w.os=F.w0.os
 tape:w.tape=F.w0.tape
 output:w.output=F.w0.output
 size:F.w0.heap.size<=w.heap.size
 same:∀b,b<F.w0.heap.size->¬ F.M b->w.heap[b]?=F.w0.heap[b]?
 xle:fH F.X0 X
 nb:∀s,X.N s<=hnext h s
 blk:∀s i B,aL h s i=some B->BOK F w A X s i B
 inj:∀s i B s' i' B',aL h s i=some B->aL h s' i'=some B'->(X.D s i).real->(X.D s' i').real->(X.D s i).b=(X.D s' i').b->s=s'/\i=i'
end Go.Sx
end
section
namespace Go.Sx
open Go.RowKit
variable [aO]
def iD:Value->V
 | .int k n=>.int k n
 | .bool b=>.bool b
 | .slice none 0 0=>.nil
 | .pointer none=>.lg
 | .nilFunc=>.oN
 | _=>.top
def JB:Value->V
 | .agg cs=>.agg (cs.toList.map iD)
 | v=>iD v
def zc(P:Program)(T:TypeId):List V:=
 match (P.info? T).bind (·.zero)with
 | some z=>z.cells.toList.map iD
 | none=>[]
def cB(P:Program)(T:TypeId):Bool:=
 match P.underlying T with
 | some (.struct _)|some (.array _ _)=>true
 | _=>false
def cT(P:Program)(T:TypeId):Bool:=(P.underlying T).isSome
def cm(P:Program)(T:TypeId):Option TypeId:=
 match P.underlying T with
 | some (.slice e)=>some e
 | _=>none
def cS(P:Program)(T:TypeId):Option (Nat × TypeId):=
 match P.underlying T with
 | some (.array n e)=>some (n,e)
 | _=>none
def cG(P:Program)(S:TypeId)(f:Nat):Option (Nat × TypeId):=
 match P.underlying S with
 | some (.struct fs)=>(fs[f]?).map fun x=>(x.offset,x.type)
 | _=>none
def V.cells:V->List V
 | .agg cs=>cs
 | v=>[v]
def V.dQ:V->Bool
 | .top|.agg _|.dB _=>false
 | _=>true
def V.bZ:V->Bool
 | .bw .. | .bG .. | .gY ..=>false
 | .agg _|.dB _|.fn _ (_::_)=>false
 | _=>true
def V.cD:V->Bool
 | .agg cs=>cs.all V.bZ
 | .dB cs=>cs.all V.bZ
 | .fn _ cs=>cs.all V.bZ
 | v=>v.bZ
def V.BP:V->Bool
 | .int .. | .bool _|.lg|.oN|.nil=>true
 | _=>false
def V.Oa:V->Bool
 | .dB cs=>cs.all V.BP
 | .agg cs=>cs.all V.BP
 | v=>v.BP
def V.leaf:V->Bool
 | .agg _|.dB _=>false
 | .fn _ (_::_)=>false
 | _=>true
def V.tW(x:V):Bool:=match x with|.agg cs=>cs.all V.leaf|.fn _ cs=>cs.all V.leaf|.dB _=>false|_=>true
structure aB where
 dom:Type
 enc:dom->List V
 dec:List V->dom
 pre:dom->Prop
 res:dom->V
structure Out where
 c:Prop
 v:V
 h:Hp
structure bB where
 go:List V->Hp->Out
inductive Spec where
 | pure (S:aB)
 | heap (S:bB)
 | iter (S:Nat->bB->bB)
structure Env where
 P:Program
 fn:Nat->Option Spec
 own:List Nat
 key:Nat
 nt:Nat
 jQ:List (Nat × List Nat):=[]
 yl:Option (Nat × bB):=none
 cfz:List (Nat × List Nat):=[]
structure St where
 t:Nat->Bool × V
 h:Hp
def bad(h:Hp):Out:=⟨False,.top,h⟩
def aAx:V->V->Prop
 | _,.top=>True
 | .nil,.sl _ []=>True
 | .emp,.sl _ []=>True
 | x,y=>x=y
def pW:List V->List V->Prop
 | [],[]=>True
 | x::xs,y::ys=>aAx x y/\pW xs ys
 | _,_=>False
def F2:V->V->Prop
 | .agg xs,.agg ys=>pW xs ys
 | x,y=>aAx x y
def BQ:List V->List V->Prop
 | [],[]=>True
 | x::xs,y::ys=>F2 x y/\BQ xs ys
 | _,_=>False
def sub:V->V->Prop
 | .dB xs,.dB ys=>BQ xs ys
 | x,y=>F2 x y
def cL(g:V->Prop × V):List V->Prop × List V
 | []=>(True,[])
 | x::xs=>((x.leaf=true/\(g x).1)/\(cL g xs).1,(g x).2::(cL g xs).2)
def dc(g:V->Prop × V):List (List V)->Prop × List (List V)
 | []=>(True,[])
 | x::xs=>((cL g x).1/\(dc g xs).1,(cL g x).2::(dc g xs).2)
def bV(g:V->Prop × V)(B:dZ):Prop × List (List V):=
 match B.cl with
 | true=>(True,B.els)
 | false=>dc g B.els
def ak:Nat->Hp->V->Prop × V
 | 0,h,.bw s i n=>match aL h s i with
  | some B=>(n=B.els.length/\B.cl=true,.sl B.z B.els)
  | none=>(False,.top)
 | 0,h,.gY s i n off len cap=>match aL h s i with
  | some B=>(n=B.els.length/\off+len<=B.els.length/\B.cl=true/\len<=cap,.sl B.z ((B.els.drop off).take len))
  | none=>(False,.top)
 | 0,h,.bG s i n e j=>match aL h s i with
  | some B=>(n=B.els.length/\B.cl=true/\B.els≠[],.ip B.z B.els e j)
  | none=>(False,.top)
 | f+1,h,.bw s i n=>match aL h s i with
  | some B=>(n=B.els.length/\(bV (ak f h) B).1,.sl B.z (bV (ak f h) B).2)
  | none=>(False,.top)
 | f+1,h,.gY s i n off len cap=>match aL h s i with
  | some B=>(n=B.els.length/\off+len<=B.els.length/\(bV (ak f h) B).1/\len<=cap,.sl B.z (((bV (ak f h) B).2.drop off).take len))
  | none=>(False,.top)
 | f+1,h,.bG s i n e j=>match aL h s i with
  | some B=>(n=B.els.length/\(bV (ak f h) B).1/\B.els≠[],.ip B.z (bV (ak f h) B).2 e j)
  | none=>(False,.top)
 | _,_,v=>(True,v)
def av(h:Hp)(v:V):Prop × V:=ak 3 h v
def dF(h:Hp):List V->Prop × List V
 | []=>(True,[])
 | x::xs=>((av h x).1/\(dF h xs).1,(av h x).2::(dF h xs).2)
def kg(h:Hp):V->Prop × V
 | .agg cs=>((dF h cs).1,.agg (dF h cs).2)
 | .fn f cs=>((dF h cs).1,.fn f (dF h cs).2)
 | v=>av h v
def ag3(h:Hp):List V->Prop × List V
 | []=>(True,[])
 | x::xs=>((kg h x).1/\(ag3 h xs).1,(kg h x).2::(ag3 h xs).2)
def F3(g:V->Prop):List V->Prop
 | []=>True
 | x::xs=>g x/\F3 g xs
def ZT(g:V->Prop):List (List V)->Prop
 | []=>True
 | x::xs=>F3 g x/\ZT g xs
def V.at?:V->Option (Nat × Nat)
 | .bw s i _|.gY s i _ _ _ _|.bG s i _ _ _=>some (s,i)
 | _=>none
def Wz:Nat->Hp->V->Prop
 | 0,h,x=>match x.at? with
  | some (s,i)=>match aL h s i with
   | some B=>B.fz=true
   | none=>False
  | none=>True
 | f+1,h,x=>match x.at? with
  | some (s,i)=>match aL h s i with
   | some B=>B.fz=true/\(B.cl=true\/ZT (Wz f h) B.els)
   | none=>False
  | none=>True
def fzA(h:Hp):V->Prop
 | .agg cs=>F3 (Wz 3 h) cs
 | .fn _ cs=>F3 (Wz 3 h) cs
 | v=>Wz 3 h v
def OV:List (Nat × List Nat)->Nat->List Nat
 | [],_=>[]
 | (a,p)::r,id=>if id=a then p else OV r id
def zx(h:Hp)(s s':Nat):Site:=if s'=s then {h s with ah:=(h s).ah.map fun B=>{B with fz:=true}}else h s'
def yp:List Nat->Hp->Hp
 | [],h=>h
 | s::r,h=>yp r (zx h s)
def vM(E:Env)(f:Nat)(args:List V)(h:Hp):Out:=
 match E.fn f with
 | some (.pure S)=>
  let l:=ag3 h args
  let d:=S.dec l.2
  ⟨args.all V.tW=true/\l.1/\BQ l.2 (S.enc d)/\S.pre d/\(args.all V.cD=true\/(S.res d).Oa=true\/F3 (fzA h) args),S.res d,h⟩
 | some (.heap S)=>S.go args h
 | some (.iter S)=>match E.yl with
  | some (l,Y)=>⟨((h YS).ah=[]/\(h YS).fl=false)/\((S l Y).go args h).c,((S l Y).go args h).v,((S l Y).go args h).h⟩
  | none=>bad h
 | none=>bad h
def r8(op:BinOp)(k:IntKind)(x y:Int):Int:=
 let a:=BitVec.ofInt k.bits x
 let b:=BitVec.ofInt k.bits y
 match op with
 | .and=>k.wrap (a &&& b).toNat
 | .or=>k.wrap (a ||| b).toNat
 | .xor=>k.wrap (a ^^^ b).toNat
 | _=>k.wrap (a &&& ~~~b).toNat
def EA(P:Program)(T:TypeId):Bool:=match P.underlying T with|some (.pointer _)=>true|_=>false
def ZU(P:Program)(T:TypeId):Bool:=match P.underlying T with|some (.func ..)=>true|_=>false
def isBool(P:Program)(T:TypeId):Bool:=match P.underlying T with|some .bool=>true|_=>false
def wI(P:Program)(T:TypeId):Option IntKind:=match P.underlying T with|some (.int k)=>some k|_=>none
def nE(P:Program)(T:TypeId):List TypeId:=
 match P.underlying T with
 | some (.array n e)=>List.replicate n e
 | some (.struct fs)=>fs.toList.map (·.type)
 | _=>[]
def F4(P:Program)(T:TypeId):Bool:=match P.underlying T with|some (.int _)|some .bool=>true|_=>false
def uO(P:Program)(T:TypeId):Bool:=
 match P.underlying T with
 | some (.array _ e)=>F4 P e && P.cellsOf e == 1 && (P.info? e).isSome && !P.eqGuardType P.depth T
 | some (.struct fs)=>fs.toList.all (fun f=>f.name != "_" && F4 P f.type) && !P.stoodInHeld T && !P.eqGuardType P.depth T && fs.toList.map (·.offset) == List.range fs.size
 | _=>false
def jr(P:Program):List TypeId->List V->List V->Prop × Bool
 | [],[],[]=>(True,true)
 | t::ts,.int k m::a,.int k' n::b=>(((wI P t).isSome=true/\k=k')/\(jr P ts a b).1,(m == n) && (jr P ts a b).2)
 | t::ts,.bool p::a,.bool q::b=>(isBool P t=true/\(jr P ts a b).1,(p == q) && (jr P ts a b).2)
 | _,_,_=>(False,false)
def ZV(P:Program)(T:TypeId)(a b:V):Prop × Bool:=
 match a,b with
 | .agg xs,.agg ys=>(uO P T=true/\(jr P (nE P T) xs ys).1,(jr P (nE P T) xs ys).2)
 | .bool p,.bool q=>(isBool P T=true,p == q)
 | .lg,.lg=>(EA P T=true,true)
 | .lg,.bG .. | .bG ..,.lg|.lg,.ip .. | .ip ..,.lg=>(EA P T=true,false)
 | .nil,.nil=>((cm P T).isSome=true,true)
 | .sl _ els,.nil|.nil,.sl _ els=>((cm P T).isSome=true/\els≠[],false)
 | .gY ..,.nil|.nil,.gY ..=>((cm P T).isSome=true,false)
 | .emp,.nil|.nil,.emp=>((cm P T).isSome=true,false)
 | .oN,.oN=>(ZU P T=true,true)
 | .oN,.fn .. | .fn ..,.oN=>(ZU P T=true,false)
 | _,_=>(False,false)
def UJ(k:IntKind)(m n:Int):Int:=k.wrap (m * 2 ^ (min n.toNat k.bits))
def tB(k:IntKind)(m n:Int):Int:=m.fdiv (2 ^ (min n.toNat k.bits))
def I5(a b:V):Bool:=
 match a,b with
 | .sl _ els,.nil|.nil,.sl _ els=>els.isEmpty
 | _,_=>false
def UK(P:Program)(op:BinOp)(T:TypeId)(a b:V):Prop × V:=
 match a,b with
 | .int k m,.int k' n=>
  match op with
  | .add=>(k=k',.int k (k.wrap (m+n)))
  | .sub=>(k=k',.int k (k.wrap (m - n)))
  | .mul=>(k=k',.int k (k.wrap (m * n)))
  | .quo=>(k=k'/\n≠0,.int k (k.wrap (m.tdiv n)))
  | .rem=>(k=k'/\n≠0,.int k (m.tmod n))
  | .shl=>(0<=n,.int k (UJ k m n))
  | .shr=>(0<=n,.int k (tB k m n))
  | .and=>(k=k',.int k (r8 .and k m n))
  | .or=>(k=k',.int k (r8 .or k m n))
  | .xor=>(k=k',.int k (r8 .xor k m n))
  | .andNot=>(k=k',.int k (r8 .andNot k m n))
  | .eql=>(k=k',.bool (m == n))
  | .neq=>(k=k',.bool (m != n))
  | .lss=>(k=k',.bool (decide (m<n)))
  | .leq=>(k=k',.bool (decide (m<=n)))
  | .gtr=>(k=k',.bool (decide (m > n)))
  | .geq=>(k=k',.bool (decide (m>=n)))
 | _,_=>
  match op with
  | .eql=>if I5 a b=true then ((cm P T).isSome=true,.qT)else ((ZV P T a b).1,.bool (ZV P T a b).2)
  | .neq=>if I5 a b=true then ((cm P T).isSome=true,.qT)else ((ZV P T a b).1,.bool (!(ZV P T a b).2))
  | _=>(False,.top)
def Ad(b:Bool)(x y:V):V:=
 match x,y with
 | .bool p,.bool q=>.bool (if b then p else q)
 | .int k m,.int k' n=>if k=k' then .int k (if b then m else n)else (if b then .int k m else .int k' n)
 | x,y=>if b then x else y
def splice(row:List V)(j:Nat)(cs:List V):List V:=row.take j++cs++row.drop (j+cs.length)
def oO(P:Program)(T:TypeId)(row:List V)(j:Nat):V:=
 if cB P T then .agg ((row.drop j).take (P.cellsOf T))else row.getD j .top
def q8(place:Nat->Option (Nat × Nat)):List V->List (Nat × V)->Prop × List V
 | cells,[]=>(True,cells)
 | cells,(i,v)::rest=>
  match place i with
  | none=>(False,cells)
  | some (off,size)=>
   let r:=q8 place (splice cells off v.cells) rest
   (v.cells.length=size/\off+size<=cells.length/\v.cells.all V.dQ=true/\r.1,r.2)
def ja(size:Nat):List (List V)->List (Nat × V)->Prop × List (List V)
 | rows,[]=>(True,rows)
 | rows,(i,v)::rest=>
  let r:=ja size (rows.set i v.cells) rest
  (v.cells.length=size/\i<rows.length/\v.cells.all V.dQ=true/\r.1,r.2)
def V.len:V->Option Nat
 | .nil=>some 0
 | .sl _ els=>some els.length
 | .bw _ _ n=>some n
 | .gY _ _ _ _ len _=>some len
 | .emp=>some 0
 | _=>none
def asI:V->Option Int
 | .int _ n=>some n
 | _=>none
def uK(ρ:Operand->V):Option Operand->Option (Option Int)
 | none=>some none
 | some x=>(asI (ρ x)).map some
def ig(k:IntKind)(isMax:Bool):Int->List V->Prop × Int
 | m,[]=>(True,m)
 | m,.int k' n::r=>let x:=ig k isMax (if isMax then (if n > m then n else m)else (if n<m then n else m)) r;(k=k'/\x.1,x.2)
 | m,_::_=>(False,m)
def fM(E:Env)(key:Nat)(T:TypeId)(s x:V)(h:Hp):Out:=
 match cm E.P T with
 | none=>bad h
 | some e=>
  let z:=E.P.cellsOf e
  let src:Prop × List (List V) × Bool:=match x with
   | .nil=>(True,[],true)
   | .sl z' els=>(z'=z,els,true)
   | .bw s' i' n'=>match aL h s' i' with
    | some B=>(B.z=z/\n'=B.els.length,B.els,B.cl)
    | none=>(False,[],true)
   | .gY s' i' n' off len _=>match aL h s' i' with
    | some B=>(B.z=z/\n'=B.els.length/\off+len<=B.els.length,(B.els.drop off).take len,B.cl)
    | none=>(False,[],true)
   | _=>(False,[],true)
  match s with
  | .nil=>
   ⟨src.1/\0<z/\(zc E.P e).length=z/\0<E.P.bytesOf e/\(src.2.1.length) * E.P.bytesOf e<=140737488355328,.bw key (hnext h key) src.2.1.length,bD h key {z:=z,els:=src.2.1,ty:=e,cl:=src.2.2}⟩
  | .bw s0 i0 n0=>
   match aL h s0 i0 with
   | none=>bad h
   | some B=>⟨src.1/\0<z/\(zc E.P e).length=z/\0<E.P.bytesOf e/\B.z=z/\B.ty=e/\B.fz=false/\n0=B.els.length/\(B.els.length+src.2.1.length) * E.P.bytesOf e<=140737488355328,
     .bw s0 i0 (B.els.length+src.2.1.length),bE h s0 i0 {B with els:=B.els++src.2.1,cl:=B.cl && src.2.2}⟩
  | .gY s0 i0 n0 off len cap=>
   match aL h s0 i0 with
   | none=>bad h
   | some B=>⟨src.1/\0<z/\B.z=z/\(zc E.P e).length=z/\B.ty=e/\B.fz=false/\n0=B.els.length/\off=0/\B.els≠[]/\len+src.2.1.length<=cap/\cap<=B.els.length,
     .gY s0 i0 n0 0 (len+src.2.1.length) cap,bE h s0 i0 {B with els:=B.els.take len++src.2.1++B.els.drop (len+src.2.1.length),cl:=B.cl && src.2.2}⟩
  | .emp=>if src.2.1=[]then ⟨src.1/\0<z/\(zc E.P e).length=z,.emp,h⟩else
   ⟨src.1/\0<z/\(zc E.P e).length=z/\0<E.P.bytesOf e/\(src.2.1.length) * E.P.bytesOf e<=140737488355328,.gY key (hnext h key) src.2.1.length 0 src.2.1.length src.2.1.length,bD h key {z:=z,els:=src.2.1,ty:=e,cl:=src.2.2}⟩
  | _=>bad h
def zy(P:Program)(T:TypeId)(x:V)(lo hi mx:Option (Option Int))(h:Hp):Prop × V:=
 match lo,hi,mx with
 | some lo,some hi,some none=>
  let l:=lo.getD 0
  match x with
  | .nil=>(cm P T≠none/\l=0/\hi.getD 0=0/\0<((cm P T).map P.cellsOf).getD 0,.nil)
  | .sl z els=>(cm P T≠none/\(cm P T).map P.cellsOf=some z/\0<=l/\l<=hi.getD els.length/\hi.getD els.length<=els.length/\0<z,.sl z ((els.drop l.toNat).take ((hi.getD els.length).toNat - l.toNat)))
  | .ip z els e j=>match cS P T with
   | some (n,el)=>(P.cellsOf el=1/\0<=l/\l<=hi.getD n/\hi.getD n<=n/\e<els.length/\j+n<=z,.sl 1 (((((els.getD e []).drop j).drop l.toNat).take ((hi.getD n).toNat - l.toNat)).map fun c=>[c]))
   | none=>(False,.top)
  | .bG s i n0 e j=>match cS P T,aL h s i with
   | some (n,el),some B=>(B.fz=true/\B.cl=true/\n0=B.els.length/\P.cellsOf el=1/\0<=l/\l<=hi.getD n/\hi.getD n<=n/\e<B.els.length/\j+n<=B.z,.sl 1 (((((B.els.getD e []).drop j).drop l.toNat).take ((hi.getD n).toNat - l.toNat)).map fun c=>[c]))
   | _,_=>(False,.top)
  | .bw s i n=>match aL h s i with
   | some B=>match B.fz with
    | true=>(cm P T≠none/\(cm P T).map P.cellsOf=some B.z/\n=B.els.length/\0<n/\0<=l/\l<=hi.getD n/\hi.getD n<=n/\B.cl=true/\0<B.z,.sl B.z ((B.els.drop l.toNat).take ((hi.getD n).toNat - l.toNat)))
    | false=>(cm P T≠none/\(cm P T).map P.cellsOf=some B.z/\n=B.els.length/\0<=l/\l<=hi.getD n/\hi.getD n<=n/\l<n/\0<B.z,.gY s i n l.toNat ((hi.getD n).toNat - l.toNat) (n - l.toNat))
   | none=>(False,.top)
  | .gY s i n off len cap=>((cm P T≠none/\0<((cm P T).map P.cellsOf).getD 0/\0<=l/\l<=hi.getD len/\hi.getD len<=cap/\len<=cap)/\(l=0\/(l<cap/\match aL h s i with|some B=>(cm P T).map P.cellsOf=some B.z|none=>False)),.gY s i n (off+l.toNat) ((hi.getD len).toNat - l.toNat) (cap - l.toNat))
  | _=>(False,.top)
 | some lo,some (some hi),some (some m)=>
  match x with
  | .bw s i n=>match aL h s i with
   | some B=>(cm P T≠none/\0<((cm P T).map P.cellsOf).getD 0/\n=B.els.length/\0<=lo.getD 0/\lo.getD 0<=hi/\hi<=m/\m<=n,.top)
   | none=>(False,.top)
  | .gY _ _ _ _ _ cap=>(cm P T≠none/\0<((cm P T).map P.cellsOf).getD 0/\0<=lo.getD 0/\lo.getD 0<=hi/\hi<=m/\m<=cap,.top)
  | _=>(False,.top)
 | _,_,_=>(False,.top)
def I6(P:Program)(key:Nat)(T:TypeId)(x:V)(lo hi mx:Option (Option Int))(h:Hp):Out:=
 match lo,hi,mx,x,cm P T with
 | some lo,some hi,some none,.bw s i n,some e=>
  match aL h s i with
  | some B=>⟨B.z=P.cellsOf e/\0<B.z/\n=B.els.length/\B.fz=false/\0<=lo.getD 0/\lo.getD 0<=hi.getD n/\hi.getD n<=n,.bw key (hnext h key) ((hi.getD n).toNat - (lo.getD 0).toNat),
    bD (tV h s i) key {B with els:=(B.els.drop (lo.getD 0).toNat).take ((hi.getD n).toNat - (lo.getD 0).toNat)}⟩
  | none=>bad h
 | _,_,_,_,_=>bad h
def p8(k:Nat):V->V
 | .sl z els=>.sl z (els.take k)
 | .gY s i n off len cap=>.gY s i n off (min k len) cap
 | v=>v
def Oc(h:Hp)(z:Nat)(x:V):Prop × List (List V) × Bool:=
 match x with
 | .nil=>(True,[],true)
 | .sl z' els=>(z'=z,els,true)
 | .bw s' i' n'=>match aL h s' i' with
  | some B=>(B.z=z/\n'=B.els.length,B.els,B.cl)
  | none=>(False,[],true)
 | .gY s' i' n' off len _=>match aL h s' i' with
  | some B=>(B.z=z/\n'=B.els.length/\off+len<=B.els.length,(B.els.drop off).take len,B.cl)
  | none=>(False,[],true)
 | _=>(False,[],true)
def zz(P:Program)(T:TypeId)(d x:V)(h:Hp):Out:=
 match cm P T,d,x.len with
 | some e,.gY s0 i0 n0 off len cap,some m=>
  match aL h s0 i0 with
  | some B=>⟨(Oc h B.z (p8 (min m len) x)).1/\(Oc h B.z (p8 (min m len) x)).2.1.length=min m len/\B.z=P.cellsOf e/\0<B.z/\(zc P e).length=P.cellsOf e/\B.ty=e/\B.fz=false/\n0=B.els.length/\B.els≠[]/\off+len<=B.els.length,.int .i64 (min m len:Nat),
    bE h s0 i0 {B with els:=B.els.take off++(Oc h B.z (p8 (min m len) x)).2.1++B.els.drop (off+min m len),cl:=B.cl && (Oc h B.z (p8 (min m len) x)).2.2}⟩
  | none=>bad h
 | _,_,_=>bad h
def sC(P:Program)(T:TypeId)(x:V)(h:Hp):Out:=
 match cm P T,x with
 | some e,.gY s i n off len _=>
  match aL h s i with
  | some B=>⟨B.z=P.cellsOf e/\0<B.z/\(zc P e).length=P.cellsOf e/\(zc P e).all V.dQ=true/\B.fz=false/\n=B.els.length/\B.els≠[]/\off+len<=B.els.length/\0<len,.dB [],
    bE h s i {B with els:=B.els.take off++List.replicate len (zc P e)++B.els.drop (off+len)}⟩
  | none=>bad h
 | _,_=>bad h
def uD(P:Program)(key:Nat)(T:TypeId)(h:Hp):Out:=
 ⟨(zc P T).length=P.cellsOf T/\0<P.cellsOf T/\(zc P T).all V.dQ=true,.bG key (hnext h key) 1 0 0,bD h key {z:=P.cellsOf T,els:=[zc P T],ty:=T}⟩
def MA(P:Program)(key:Nat)(T:TypeId)(x:V)(h:Hp):Out:=
 ⟨x.cells.length=P.cellsOf T/\x.cells.all V.dQ=true,.bG key (hnext h key) 1 0 0,bD h key {z:=P.cellsOf T,els:=[x.cells],ty:=T,cl:=x.cells.all V.cD}⟩
def ar5(P:Program)(T:TypeId):Bool:=
 match P.underlying T with
 | some (.struct fs)=>fs.toList.all fun f=>decide (0<P.cellsOf f.type)
 | _=>true
def gE(P:Program)(T:TypeId):Bool:=match P.underlying T with|some (.struct _)=>true|_=>false
def ny(P:Program)(T:TypeId)(parts:List (Nat × V))(h:Hp):Out:=
 match gE P T,cS P T with
 | true,_=>
  match q8 (fun i=>(cG P T i).map fun p=>(p.1,P.cellsOf p.2)) (zc P T) parts with
  | (c,r)=>⟨(zc P T).length=P.cellsOf T/\0<P.cellsOf T/\(zc P T).all V.dQ=true/\ar5 P T=true/\c,.agg r,h⟩
 | false,some (_,e)=>
  match q8 (fun i=>some (i * P.cellsOf e,P.cellsOf e)) (zc P T) parts with
  | (c,r)=>⟨(zc P T).length=P.cellsOf T/\0<P.cellsOf T/\(zc P T).all V.dQ=true/\0<P.cellsOf e/\c,.agg r,h⟩
 | _,_=>bad h
def dK(P:Program)(own:Bool)(key:Nat)(T:TypeId)(n:Nat)(parts:List (Nat × V))(h:Hp):Out:=
 match cm P T with
 | some e=>
  match ja (P.cellsOf e) (List.replicate n (zc P e)) parts with
  | (c,r)=>
   if own then ⟨((zc P e).length=P.cellsOf e/\0<P.cellsOf e/\n * P.cellsOf e<=1048576/\(zc P e).all V.dQ=true/\c),.bw key (hnext h key) n,bD h key {z:=P.cellsOf e,els:=r,ty:=e,cl:=r.all fun row=>row.all V.cD}⟩
   else ⟨((zc P e).length=P.cellsOf e/\0<P.cellsOf e/\n * P.cellsOf e<=1048576/\(zc P e).all V.dQ=true/\c)/\(r.all fun row=>row.all V.cD)=true,.sl (P.cellsOf e) r,h⟩
 | none=>bad h
def gX(P:Program)(T:TypeId)(n:Nat)(parts:List (Nat × V))(h:Hp):Out:=
 match cm P T,n,parts with
 | some e,0,[]=>⟨0<P.cellsOf e/\(zc P e).length=P.cellsOf e,.emp,h⟩
 | _,_,_=>bad h
omit [aO]in
theorem uL(P:Program)(T:TypeId)(n:Nat)(parts:List (Nat × V))(h:Hp):(gX P T n parts h).h=h:=by unfold gX;split<;>rfl
omit [aO]in
theorem CB(P:Program)(T:TypeId)(n:Nat)(parts:List (Nat × V))(h h':Hp):gX P T n parts h'={gX P T n parts h with h:=h'}:=by unfold gX;split<;>rfl
def l9(P:Program)(T:TypeId)(a:V)(h:Hp):Out:=
 match a with
 | .ip z els e j=>⟨e<els.length/\j+P.cellsOf T<=z/\(cB P T=false->P.cellsOf T=1)/\cT P T=true/\0<P.cellsOf T,oO P T (els.getD e []) j,h⟩
 | .bG s i n e j=>match aL h s i with
  | some B=>⟨n=B.els.length/\e<B.els.length/\j+P.cellsOf T<=B.z/\(cB P T=false->P.cellsOf T=1)/\cT P T=true/\0<P.cellsOf T,oO P T (B.els.getD e []) j,h⟩
  | none=>bad h
 | _=>bad h
def nq(P:Program)(T:TypeId)(a x:V)(h:Hp):Out:=
 match a with
 | .bG s i n e j=>match aL h s i with
  | some B=>⟨n=B.els.length/\e<B.els.length/\j+P.cellsOf T<=B.z/\0<P.cellsOf T/\B.fz=false/\x.cells.length=P.cellsOf T/\x.cells.all V.dQ=true,.top,
    bE h s i {B with els:=B.els.set e (splice (B.els.getD e []) j x.cells),cl:=B.cl && x.cells.all V.cD}⟩
  | none=>bad h
 | _=>bad h
def sUn(op:UnOp)(x:V)(h:Hp):Out:=
 match op,x with
 | .not,.bool b=>⟨True,.bool !b,h⟩
 | .neg,.int k n=>⟨True,.int k (k.wrap (0 - n)),h⟩
 | _,_=>bad h
def yq(P:Program)(S D:TypeId)(x:V)(h:Hp):Out:=
 match x,wI P S,wI P D with
 | .int _ n,some _,some k=>⟨True,.int k (k.wrap n),h⟩
 | _,_,_=>bad h
def eG(P:Program)(own:Bool)(key:Nat)(T:TypeId)(l c:V)(h:Hp):Out:=
 match cm P T,l,c with
 | some e,.int _ n,.int _ m=>
  if own then
   ⟨0<=n/\n<=m/\(zc P e).length=P.cellsOf e/\0<P.cellsOf e/\(zc P e).all V.dQ=true/\m * P.bytesOf e<=140737488355328/\m<=9223372036854775807,.gY key (hnext h key) m.toNat 0 n.toNat m.toNat,
    bD h key {z:=P.cellsOf e,els:=List.replicate m.toNat (zc P e),ty:=e}⟩
  else
   ⟨0<=n/\n<=m/\(zc P e).length=P.cellsOf e/\0<P.cellsOf e/\(zc P e).all V.dQ=true/\m * P.bytesOf e<=140737488355328/\m<=9223372036854775807,.bw key (hnext h key) n.toNat,
    bD h key {z:=P.cellsOf e,els:=List.replicate n.toNat (zc P e),ty:=e}⟩
 | _,_,_=>bad h
def gI(P:Program)(own:Bool)(key:Nat)(T T2:TypeId)(s x:V)(h:Hp):Out:=
 match cm P T,wI P T2,s,x with
 | some e,some _,.nil,.int _ m=>
  ⟨own=true/\0<m/\(zc P e).length=P.cellsOf e/\0<P.cellsOf e/\(zc P e).all V.dQ=true/\m * P.bytesOf e<=140737488355328/\m<=9223372036854775807,.gY key (hnext h key) m.toNat 0 m.toNat m.toNat,
   bD h key {z:=P.cellsOf e,els:=List.replicate m.toNat (zc P e),ty:=e}⟩
 | _,_,_,_=>bad h
def sCap(P:Program)(T:TypeId)(x:V)(h:Hp):Out:=
 match x with
 | .nil=>⟨(cm P T).isSome=true,.int .i64 0,h⟩
 | _=>bad h
def fk(P:Program)(S:TypeId)(x:V)(f:Nat)(h:Hp):Out:=
 match x,cG P S f with
 | .ip z els e j,some (o,ft)=>⟨0<P.cellsOf ft,.ip z els e (j+o),h⟩
 | .bG s i n e j,some (o,ft)=>⟨0<P.cellsOf ft,.bG s i n e (j+o),h⟩
 | _,_=>bad h
def nr(P:Program)(S:TypeId)(x:V)(f:Nat)(h:Hp):Out:=
 match x,cG P S f with
 | .agg cs,some (o,ft)=>⟨o+P.cellsOf ft<=cs.length/\0<P.cellsOf ft/\(cB P ft=false->P.cellsOf ft=1)/\cT P ft=true,oO P ft cs o,h⟩
 | _,_=>bad h
def ef(P:Program)(T:TypeId)(x:V)(ix:V)(h:Hp):Out:=
 match ix with
 | .int _ n=>match x,cm P T,cS P T with
  | .sl z els,some e,_=>⟨z=P.cellsOf e/\0<z/\0<=n/\n<els.length,.ip z els n.toNat 0,h⟩
  | .bw s i m,some e,_=>match aL h s i with
   | some B=>⟨B.z=P.cellsOf e/\0<B.z/\m=B.els.length/\0<=n/\n<m,.bG s i m n.toNat 0,h⟩
   | none=>bad h
  | .gY s i m off len _,some e,_=>match aL h s i with
   | some B=>⟨B.z=P.cellsOf e/\0<B.z/\m=B.els.length/\0<=n/\n<len,.bG s i m (off+n.toNat) 0,h⟩
   | none=>bad h
  | .ip z els e0 j,_,some (len,e)=>⟨0<=n/\n<len/\0<P.cellsOf e,.ip z els e0 (j+n.toNat * P.cellsOf e),h⟩
  | .bG s i m e0 j,_,some (len,e)=>⟨0<=n/\n<len/\0<P.cellsOf e,.bG s i m e0 (j+n.toNat * P.cellsOf e),h⟩
  | _,_,_=>bad h
 | _=>bad h
def nu(P:Program)(T:TypeId)(x:V)(ix:V)(h:Hp):Out:=
 match ix,x,cS P T with
 | .int _ n,.agg cs,some (len,e)=>⟨0<=n/\n<len/\cs.length=len * P.cellsOf e/\0<P.cellsOf e/\(cB P e=false->P.cellsOf e=1)/\cT P e=true,oO P e cs (n.toNat * P.cellsOf e),h⟩
 | _,_,_=>bad h
def sLen(P:Program)(T:TypeId)(x:V)(h:Hp):Out:=
 match x.len with
 | some n=>⟨(cm P T).isSome=true,.int .i64 n,h⟩
 | none=>bad h
def uM(isMax:Bool)(xs:List V)(h:Hp):Out:=
 match xs with
 | .int k m::r=>⟨(ig k isMax m r).1,.int k (ig k isMax m r).2,h⟩
 | _=>bad h
def q9(E:Env)(f:V)(args:List V)(h:Hp):Out:=
 match f with
 | .fn g caps=>vM E g (args++caps) h
 | .vW l=>match E.yl with
  | some (l',Y)=>if l=l' then Y.go args h else bad h
  | none=>bad h
 | _=>bad h
def o6(E:Env)(dst:Nat)(f:V)(h:Hp):Hp:=
 match f with
 | .fn g _=>match E.fn g with
  | some (.pure _)=>yp (OV E.cfz dst) h
  | _=>h
 | _=>h
def mN(x:V)(ix:Nat)(h:Hp):Out:=
 match x with
 | .dB vs=>⟨ix<vs.length,vs.getD ix .top,h⟩
 | _=>bad h
def A7(c a b:V)(h:Hp):Out:=
 match c with
 | .bool t=>⟨True,Ad t a b,h⟩
 | _=>bad h
def Co(x:V)(h:Hp):Out:=
 match x with
 | .bG .. | .ip ..=>⟨True,x,h⟩
 | _=>bad h
def sem(E:Env)(dst:Nat)(op:Op)(ρ:Operand->V)(h:Hp):Out:=
 match op with
 | .move x|.assign x=>⟨True,ρ x,h⟩
 | .pick c a b=>A7 (ρ c) (ρ a) (ρ b) h
 | .alloc T=>uD E.P (E.key+dst) T h
 | .box T x=>MA E.P (E.key+dst) T (ρ x) h
 | .build T parts=>ny E.P T (parts.toList.map fun p=>(p.1,ρ p.2)) h
 | .buildSlice T n parts=>if E.own.contains (dst+500000)then gX E.P T n (parts.toList.map fun p=>(p.1,ρ p.2)) h else dK E.P (E.own.contains dst) (E.key+dst) T n (parts.toList.map fun p=>(p.1,ρ p.2)) h
 | .load T a=>l9 E.P T (ρ a) h
 | .store T a x=>nq E.P T (ρ a) (ρ x) h
 | .nilCheck x=>Co (ρ x) h
 | .binOp op T x y _=>match UK E.P op T (ρ x) (ρ y)with|(c,v)=>⟨c,v,h⟩
 | .unOp op _ x=>sUn op (ρ x) h
 | .convert S D x=>yq E.P S D (ρ x) h
 | .makeFunc (.func f) first caps=>if first.isEmpty then ⟨True,.fn f (caps.toList.map ρ),h⟩else bad h
 | .makeSlice T l c=>eG E.P (E.own.contains dst) (E.key+dst) T (ρ l) (ρ c) h
 | .slice T x lo hi mx=>if E.own.contains dst then I6 E.P (E.key+dst) T (ρ x) (uK ρ lo) (uK ρ hi) (uK ρ mx) h else match zy E.P T (ρ x) (uK ρ lo) (uK ρ hi) (uK ρ mx) h with|(c,v)=>⟨c,v,h⟩
 | .fieldAddr S x f=>fk E.P S (ρ x) f h
 | .field S x f=>nr E.P S (ρ x) f h
 | .indexAddr T x ix=>ef E.P T (ρ x) (ρ ix) h
 | .index T x ix=>nu E.P T (ρ x) (ρ ix) h
 | .extract x ix=>mN (ρ x) ix h
 | .call c=>match c.callee with
  | .builtin .len=>match c.args.toList,c.argTypes.toList with
   | [x],[T]=>sLen E.P T (ρ x) h
   | _,_=>bad h
  | .builtin .cap=>match c.args.toList,c.argTypes.toList with
   | [x],[T]=>sCap E.P T (ρ x) h
   | _,_=>bad h
  | .builtin .clear=>match c.args.toList,c.argTypes.toList with
   | [x],[T]=>sC E.P T (ρ x) h
   | _,_=>bad h
  | .builtin .copy=>match c.args.toList,c.argTypes.toList with
   | [d,x],[T,_]=>zz E.P T (ρ d) (ρ x) h
   | _,_=>bad h
  | .builtin .max=>uM true (c.args.toList.map ρ) h
  | .builtin .min=>uM false (c.args.toList.map ρ) h
  | .builtin .append=>match c.args.toList,c.argTypes.toList with
   | [s,x],[T,T2]=>if T2=T then fM E (E.key+dst) T (ρ s) (ρ x) h else gI E.P (E.own.contains dst) (E.key+dst) T T2 (ρ s) (ρ x) h
   | _,_=>bad h
  | .value f=>q9 E (ρ f) (c.args.toList.map ρ) (o6 E dst (ρ f) h)
  | _=>bad h
 | _=>bad h
def ev(st:St):Operand->Bool × V
 | .tmp t=>st.t t
 | .const v=>(true,JB v)
 | .func f=>(true,.fn f [])
 | .global g=>(true,(aO.G g).getD .top)
def di(st:St)(x:Operand):V:=(ev st x).2
def CC(st:St):List Operand->Prop
 | []=>True
 | x::r=>(ev st x).1=true/\CC st r
def valid(st:St):Op->Prop
 | .pick c a b=>(ev st c).1=true/\(di st c=.bool true->(ev st a).1=true)/\(di st c=.bool false->(ev st b).1=true)
 | .call c=>CC st (match c.callee with|.value f=>f::c.args.toList|_=>c.args.toList)
 | op=>CC st op.operands.toList
def o7(t:Nat->Bool × V)(d:Option Nat)(x:Bool × V)(k:Nat):Bool × V:=
 match d with
 | some d=>if k=d then x else t k
 | none=>t k
def CZ(c:Bool)(v:V)(want:Bool):Prop × Bool:=
 match c with
 | false=>(True,false)
 | true=>match v with
  | .bool b=>(True,b == want)
  | _=>(False,false)
omit [aO]in
theorem F5(c b want:Bool):CZ c (.bool b) want=(True,c && (b == want)):=by cases c<;>rfl
omit [aO]in
theorem I7(v:V)(want:Bool):CZ false v want=(True,false):=rfl
def fI(ops:List Oper)(st:St):Option (Nat × Bool)->Prop × Bool
 | none=>(True,true)
 | some (j,want)=>
  match (ops[j]?).bind (·.dst)with
  | some d=>CZ (st.t d).1 (st.t d).2 want
  | none=>(False,false)
def A8(nt:Nat):Option Nat->Prop
 | some d=>d<nt
 | none=>True
def nD(b:Bool)(h h':Hp):Hp:=match b with|true=>h|false=>h'
def step(E:Env)(ops:List Oper)(o:Oper)(st:St):Prop × St:=
 match fI ops st o.guard with
 | (gc,g)=>match sem E (o.dst.getD 0) o.op (di st) st.h with
  | ⟨c,v,h⟩=>(gc/\A8 E.nt o.dst/\(g=true->valid st o.op/\c),{t:=o7 st.t o.dst (g,v),h:=nD g h st.h})
def mP(E:Env)(ops:List Oper):List Oper->St->Prop × St
 | [],st=>(True,st)
 | o::l,st=>match step E ops o st with
  | (c,st')=>match mP E ops l st' with
   | (c',H6)=>(c/\c',H6)
inductive Ex where
 | normal
 | exit (id:Nat)
 | ret
def bA(h h':Hp):Prop:=((∀s i B,aL h' s i=some B->aL h s i=some B)/\∀s,hnext h s<=hnext h' s)/\h' YS=h YS
def TLe(t t':Nat->Bool × V):Prop:=∀k,t' k=(true,.top)\/t' k=t k\/∃x,t k=(true,x)/\∃y,t' k=(true,y)/\sub x y
structure ZW (st st':St):Prop where
 t:TLe st.t st'.t
 h:bA st.h st'.h
def hfl(h:Hp)(b:Bool)(s:Nat):Site:=if s=YS then {base:=hnext h YS,ah:=[],fl:=b}else h s
inductive Gh:St->St->Prop
 | refl (st:St):Gh st st
 | nil (st st':St) (k key z:Nat) (ty:TypeId) (hk:st.t k=(true,.nil)) (hz:0<z) (hy:key≠YS) (h:Gh {t:=o7 st.t (some k) (true,.bw key (hnext st.h key) 0),h:=bD st.h key {z:=z,els:=[],ty:=ty}} st'):Gh st st'
def aS(E:Env)(o:Oper)(st:St):Prop:=∀h h',sem E (o.dst.getD 0) o.op (di st) h'={sem E (o.dst.getD 0) o.op (di st) h with h:=h'}
def o8(o:Oper)(st:St):Prop:=match o.op with
 | .load _ a=>match di st a with
  | .bG s i _ _ _=>match aL st.h s i with
   | some B=>B.fz=true
   | none=>False
  | _=>False
 | _=>False
def CE(c:Call):Bool:=match c.callee,c.args.toList with
 | .builtin .append,[.const (.slice none 0 0),_]=>true
 | _,_=>false
def kq(o:Oper):Bool:=match o.op with
 | .alloc _|.box .. | .makeSlice .. | .buildSlice ..=>true
 | .call c=>CE c
 | _=>false
def lB(o:Oper)(st:St):Prop:=match o.op with
 | .call c=>match c.callee,c.args.toList,c.argTypes.toList with
  | .builtin .append,[.const (.slice none 0 0),x],[T,T2]=>T2=T/\match di st x with
   | .sl _ _|.nil=>True
   | _=>False
  | _,_,_=>False
 | _=>False
def cQ(E:Env)(ops:List Oper)(o:Oper)(st:St):Prop:=match o.op with
 | .load _ a=>match di st a with
  | .bG s _ _ _ _=>(ops.all fun q=>!kq q || E.key+q.dst.getD 0 != s)=true
  | _=>False
 | .indexAddr _ a _=>match di st a with
  | .bG s _ _ _ _|.bw s _ _|.gY s _ _ _ _ _=>(ops.all fun q=>!kq q || E.key+q.dst.getD 0 != s)=true
  | _=>False
 | _=>False
abbrev jC:=List (Nat × (List Nat × List (List Nat)))
def iS(E:Env)(ops:List Oper)(fr:List Nat):List Nat->St->Prop × St
 | [],st=>(True,st)
 | i::l,st=>match ops[i]? with
  | none=>iS E ops fr l st
  | some o=>((((fr.contains i=true->aS E o st)/\(fr.contains (i+1000)=true->o8 o st)/\(fr.contains (i+2000)=true->cQ E ops o st)/\(fr.contains (i+3000)=true->lB o st))/\(step E ops o st).1)/\(iS E ops fr l (step E ops o st).2).1,(iS E ops fr l (step E ops o st).2).2)
def runs(E:Env)(ops:List Oper)(fr:List Nat):List (List Nat)->St->(St->Prop)->Prop
 | [],_,_=>True
 | l::r,st,K=>((iS E ops fr l st).1/\K (iS E ops fr l st).2)/\runs E ops fr r st K
def ZX(h:Hp):V->Prop × Hp
 | .bG s i _ _ _|.bw s i _=>match aL h s i with
  | some B=>(True,bE h s i {B with fz:=true})
  | none=>(False,h)
 | _=>(False,h)
def ae1(k:Nat)(st:St):Prop × St:=(((st.t k).2.leaf=true/\(av st.h (st.t k).2).1)/\Wz 3 st.h (st.t k).2,{t:=o7 st.t (some k) ((st.t k).1,(av st.h (st.t k).2).2),h:=st.h})
def ZY(q:Nat)(st:St):Prop × St:=match st.t (q % 1000)with
 | (g,.gY s i n off len cap)=>match aL st.h s i with
  | some B=>((g=true/\q / 1000≠999999999)/\B.fz=false/\n=B.els.length/\off+len<=n/\len<=cap/\B.els≠[],{t:=o7 st.t (some (q % 1000)) (g,.bw (q / 1000) (hnext st.h (q / 1000)) len),h:=bD (tV st.h s i) (q / 1000) {B with els:=(B.els.drop off).take len}})
  | none=>(False,st)
 | (g,.bw s i n)=>match aL st.h s i with
  | some B=>((g=true/\q / 1000≠999999999)/\B.fz=false/\n=B.els.length/\B.els≠[],{t:=o7 st.t (some (q % 1000)) (g,.bw (q / 1000) (hnext st.h (q / 1000)) n),h:=bD (tV st.h s i) (q / 1000) B})
  | none=>(False,st)
 | (_,.nil)|(_,.sl ..)|(_,.emp)=>(True,st)
 | _=>(False,st)
def Az(k:Nat)(st:St):Prop × St:=if 1000000<=k then ZY (k - 1000000) st else if 100000<=k then (True,{t:=st.t,h:=zx st.h (k - 100000)})else if 50000<=k then ae1 (k - 50000) st else match ZX st.h (st.t k).2 with
 | (c,h')=>(c,{t:=st.t,h:=h'})
def qW:List Nat->St->Prop × St
 | [],st=>(True,st)
 | k::r,st=>match Az k st with
  | (c,st')=>match qW r st' with
   | (c',H6)=>(c/\c',H6)
def vn(t:Nat->Bool × V):List Nat->List V->Nat->Bool × V
 | p::ps,x::xs=>vn (o7 t (some p) (true,x)) ps xs
 | _,_=>t
def jo(E:Env)(ok:jC):Code->St->(Ex->St->Prop)->Prop
 | .skip,st,Q=>Q .normal st
 | .region id ops draw,st,Q=>match qW (OV E.jQ id) st with
  | (c0,st)=>c0/\match draw,ok.lookup id with
   | true,some (fr,cs)=>runs E ops.toList fr cs st fun st'=>Q .normal st'
   | _,_=>match mP E ops.toList ops.toList st with
    | (c,st')=>c/\Q .normal st'
 | .seq a b,st,Q=>jo E ok a st fun e st'=>match e with
  | .normal=>jo E ok b st' Q
  | e=>Q e st'
 | .cond c x y,st,Q=>match ev st c with
  | (g,.bool b)=>g=true/\(b=true->jo E ok x st Q)/\(b=false->jo E ok y st Q)
  | (g,.qT)=>g=true/\jo E ok x st Q/\jo E ok y st Q
  | _=>False
 | .block id c,st,Q=>jo E ok c st fun e st'=>match e with
  | .exit i=>if i=id then Q .normal st' else Q (.exit i) st'
  | e=>Q e st'
 | .loop c,st,Q=>∃(ι:Type) (I:ι->St) (m:ι->Nat) (i0:ι),(∃st1,Gh st st1/\ZW st1 (I i0))/\∀i,jo E ok c (I i) fun e st'=>match e with
  | .normal=>∃j,ZW st' (I j)/\m j<m i
  | e=>Q e st'
 | .exit id,st,Q=>Q (.exit id) st
 | .ret,st,Q=>Q .ret st
 | .rangeFunc g ps assign body,st,Q=>E.yl=none/\∃(it:Nat) (caps:List V) (S:Nat->bB->bB) (Y:bB) (e0:Ex),
   ((ev st g=(true,.fn it caps)/\E.fn it=some (.iter S))/\(ps.toList.all fun p=>decide (p<E.nt))=true)/\
   (∀args h,(Y.go args h).c->((h YS).ah=[]/\(h YS).fl=false)/\args.length=ps.size/\jo E ok assign {t:=vn st.t ps.toList args,h:=h} fun e st1=>match e with
    | .normal=>jo E ok body st1 fun e st2=>match e with
     | .normal=>(Y.go args h).v=.bool true/\bA (hfl st2.h false) (Y.go args h).h
     | .ret=>e0=.ret/\(Y.go args h).v=.bool false/\bA (hfl st2.h true) (Y.go args h).h
     | .exit id=>e0=.exit id/\(Y.go args h).v=.bool false/\bA (hfl st2.h true) (Y.go args h).h
    | _=>False)/\
   ∀l,((S l Y).go (.vW l::caps) (hfl st.h false)).c/\
    (((((S l Y).go (.vW l :: caps) (hfl st.h false)).h YS).fl = false -> Q .normal { t := st.t, h := hfl ((S l Y).go (.vW l :: caps) (hfl st.h false)).h false }) /\
     ((((S l Y).go (.vW l::caps) (hfl st.h false)).h YS).fl=true->e0≠.normal/\Q e0 {t:=st.t,h:=hfl ((S l Y).go (.vW l::caps) (hfl st.h false)).h false}))
 | _,_,_=>False
end Go.Sx
end
section
namespace Go.Sx
open Go.RowKit
variable [aO]
section inv
variable {w:World} {A:Nat->Prop} {X:Refs}
omit [aO]in
theorem RV.dV{k:IntKind}{n:Int}{u:Value}(h:RV w A X (.int k n) u):u=.int k n:=by cases h with|pure h=>cases h;rfl
omit [aO]in
theorem RV.gD{b:Bool}{u:Value}(h:RV w A X (.bool b) u):u=.bool b:=by cases h with|pure h=>cases h;rfl
omit [aO]in
theorem RV.UL{u:Value}(h:RV w A X .qT u):∃b,u=.bool b:=by cases h with|pure h=>cases h;exact⟨_,rfl⟩
omit [aO]in
theorem RV.dY{u:Value}(h:RV w A X .nil u):u=.slice none 0 0:=by cases h with|pure h=>cases h;rfl
omit [aO]in
theorem RV.ng{u:Value}(h:RV w A X .lg u):u=.pointer none:=by cases h with|pure h=>cases h;rfl
omit [aO]in
theorem RV.tX{u:Value}(h:RV w A X .oN u):u=.nilFunc:=by cases h with|pure h=>cases h;rfl
omit [aO]in
theorem RV.nv{z:Nat}{els:List (List V)}{u:Value}(h:RV w A X (.sl z els) u):PV w A (.sl z els) u:=by cases h with|pure h=>exact h
omit [aO]in
theorem RV.rO{z:Nat}{els:List (List V)}{e j:Nat}{u:Value}(h:RV w A X (.ip z els e j) u):PV w A (.ip z els e j) u:=by cases h with|pure h=>exact h
omit [aO]in
theorem RV.mb{cs:List V}{u:Value}(h:RV w A X (.agg cs) u):∃us:Array Value,u=.agg us/\us.size=cs.length/\∀i c,cs[i]?=some c->RV w A X c (us.getD i gC):=by
 cases h with
 | pure h=>cases h with|agg cs us hl h=>exact⟨us,rfl,hl,fun i c hc=>.pure (h i c hc)⟩
 | agg cs us hl h=>exact⟨us,rfl,hl,h⟩
omit [aO]in
theorem RV.KQ{cs:List V}{u:Value}(h:RV w A X (.dB cs) u):∃us:Array Value,u=.tuple us/\us.size=cs.length/\∀i c,cs[i]?=some c->RV w A X c (us.getD i gC):=by
 cases h with
 | pure h=>cases h with|dB cs us hl h=>exact⟨us,rfl,hl,fun i c hc=>.pure (h i c hc)⟩
 | dB cs us hl h=>exact⟨us,rfl,hl,h⟩
omit [aO]in
theorem RV.nN{f:Nat}{cs:List V}{u:Value}(h:RV w A X (.fn f cs) u):∃us:Array Value,u=.func (.func f) #[] us/\us.size=cs.length/\∀i c,cs[i]?=some c->RV w A X c (us.getD i gC):=by
 cases h with
 | pure h=>cases h with|fn f cs us hl h=>exact⟨us,rfl,hl,fun i c hc=>.pure (h i c hc)⟩
 | fn f cs us hl h=>exact⟨us,rfl,hl,h⟩
omit [aO]in
theorem RV.gp{s i n:Nat}{u:Value}(h:RV w A X (.bw s i n) u):∃a c,u=.slice a n c/\i<X.N s/\n<=(X.D s i).len/\(n=(X.D s i).len->Value.slice a n c=(X.D s i).v):=by
 cases h with
 | pure h=>cases h
 | bw _ _ _ a c hN hn hv=>exact⟨a,c,rfl,hN,hn,hv⟩
omit [aO]in
theorem RV.iZ{s i n e j:Nat}{u:Value}(h:RV w A X (.bG s i n e j) u):∃a,u=.pointer (some a)/\i<X.N s/\n<=(X.D s i).len/\(n=(X.D s i).len->a=⟨(X.D s i).b,(X.D s i).o+e * (X.D s i).z+j,none⟩):=by
 cases h with
 | pure h=>cases h
 | bG _ _ _ _ _ a hN hn hv=>exact⟨a,rfl,hN,hn,hv⟩
omit [aO]in
theorem RV.gq{s i n off len cap:Nat}{u:Value}(h:RV w A X (.gY s i n off len cap) u):∃a c,u=.slice (some a) len c/\cap<=c/\i<X.N s/\n<=(X.D s i).len/\(n=(X.D s i).len->a=⟨(X.D s i).b,(X.D s i).o+off * (X.D s i).z,none⟩/\off+c<=(X.D s i).cap):=by
 cases h with
 | pure h=>cases h
 | gY _ _ _ _ _ _ a c mK hN hn hv=>exact⟨a,c,rfl,mK,hN,hn,hv⟩
omit [aO]in
theorem RV.tY{u:Value}(h:RV w A X .emp u):∃a,u=.slice (some a) 0 0:=by
 cases h with
 | pure h=>cases h with
  | emp a=>exact⟨a,rfl⟩
omit [aO]in
theorem RV.KP{x:V}{n:Nat}{u:Value}(h:RV w A X x u)(hx:x.len=some n):∃a c,u=.slice a n c:=by
 cases x<;>simp only [V.len,Option.some.injEq,reduceCtorEq]at hx
 ·subst hx;exact⟨none,0,h.dY⟩
 ·subst hx;have h':=h.nv;cases h' with
  | xV z a cap=>exact⟨a,cap,rfl⟩
  | sl z els b off cap u v8=>exact⟨_,cap,rfl⟩
 ·subst hx;obtain⟨a,c,rfl,_⟩:=h.gp;exact⟨a,c,rfl⟩
 ·subst hx;obtain⟨a,c,rfl,_⟩:=h.gq;exact⟨_,_,rfl⟩
 ·subst hx;obtain⟨a,rfl⟩:=h.tY;exact⟨_,_,rfl⟩
omit [aO]in
theorem PV.one{x:V}{u:Value}(h:PV w A x u)(hx:x.dQ=true):u.oneCell'=true:=by cases h<;>simp_all [V.dQ,Value.oneCell']
omit [aO]in
theorem RV.one{x:V}{u:Value}(h:RV w A X x u)(hx:x.dQ=true):u.oneCell'=true:=by
 cases h with
 | pure h=>exact h.one hx
 | agg=>simp [V.dQ]at hx
 | dB=>simp [V.dQ]at hx
 | fn=>rfl
 | bw=>rfl
 | bG=>rfl
 | gY=>rfl
omit [aO]in
theorem PV.j6{x:V}{u:Value}(h:RV w A X x u)(hx:x.bZ=true):PV w A x u:=by
 cases h with
 | pure h=>exact h
 | agg=>simp [V.bZ]at hx
 | dB=>simp [V.bZ]at hx
 | fn f cs us hl h=>
  cases cs with
  | nil=>exact .fn f [] us hl (by simp)
  | cons c cs=>simp [V.bZ]at hx
 | bw=>simp [V.bZ]at hx
 | bG=>simp [V.bZ]at hx
 | gY=>simp [V.bZ]at hx
omit [aO]in
theorem PV.lq{x:V}{u:Value}(h:RV w A X x u)(hx:x.cD=true):PV w A x u:=by
 cases h with
 | pure h=>exact h
 | agg cs us hl h=>
  simp only [V.cD,List.all_eq_true]at hx;exact .agg cs us hl fun i c hc=>.j6 (h i c hc) (hx c (List.mem_of_getElem? hc))
 | dB cs us hl h=>
  simp only [V.cD,List.all_eq_true]at hx;exact .dB cs us hl fun i c hc=>.j6 (h i c hc) (hx c (List.mem_of_getElem? hc))
 | fn f cs us hl h=>
  simp only [V.cD,List.all_eq_true]at hx;exact .fn f cs us hl fun i c hc=>.j6 (h i c hc) (hx c (List.mem_of_getElem? hc))
 | bw=>simp [V.cD,V.bZ]at hx
 | bG=>simp [V.cD,V.bZ]at hx
 | gY=>simp [V.cD,V.bZ]at hx
def gW(w:World)(A:Nat->Prop)(X:Refs)(cs:List V)(us:Array Value):Prop:=
 us.size=cs.length/\∀(j:Nat) (c:V),cs[j]?=some c->∃u,us[j]?=some u/\u.oneCell'=true/\RV w A X c u
omit [aO]in
theorem DE{u:Value}(h:u.oneCell'=true):u.cells = #[u]:=by cases u<;>simp_all [Value.cells,Value.oneCell']
omit [aO]in
theorem RV.cells{x:V}{u:Value}(h:RV w A X x u)(hx:x.cells.all V.dQ=true):gW w A X x.cells u.cells:=by
 simp only [List.all_eq_true]at hx;by_cases ha:∃cs,x=.agg cs
 ·obtain⟨cs,rfl⟩:=ha;obtain⟨us,rfl,hl,hc⟩:=h.mb;simp only [V.cells,Value.cells]at hx ⊢;refine⟨hl,fun j c hj=>?_⟩;have v0:j<us.size:=by rw [hl];exact(List.getElem?_eq_some_iff.1 hj).1
  have:=hc j c hj;rw [Array.getD_eq_getD_getElem?,Array.getElem?_eq_getElem v0,Option.getD_some]at this;exact⟨us[j],Array.getElem?_eq_getElem v0,this.one (hx c (List.mem_of_getElem? hj)),this⟩
 ·have z8:x.cells=[x]:=by cases x<;>first|rfl|exact absurd ⟨_,rfl⟩ ha
  rw [z8]at hx ⊢;have h1:=h.one (hx x (by simp));rw [DE h1];refine⟨rfl,fun j c hj=>?_⟩;cases j with
  | zero=>simp at hj;subst hj;exact⟨u,by simp,h1,h⟩
  | succ j=>simp at hj
end inv
omit [aO]in
theorem dJ(b o n:Nat):(⟨b,o,none⟩:Addr).add n=⟨b,o+n,none⟩:=by unfold Addr.add;split<;>simp_all
section alloc
variable {F:Fr} {w:World} {A:Nat->Prop} {X:Refs} {h:Hp}
def bT(w:World)(X:Refs)(h:Hp)(s:Nat)(B:dZ)(cap:Nat):Refs:=
 {D:=fun s' i'=>if s'=s/\i'=hnext h s then {b:=w.heap.size,z:=B.z,len:=B.els.length,v:=.slice (some ⟨w.heap.size,0,none⟩) B.els.length cap}else X.D s' i',
  N:=fun s'=>if s'=s then hnext h s+1 else X.N s'}
theorem Inv.nw(hI:Inv F w A X h)(s:Nat)(B:dZ)(cap:Nat):fH X (bT w X h s B cap):=by
 intro s' i' hi;have:=hI.nb s';constructor
 ·simp only [bT];split
  ·rename_i hs;subst hs;omega
  ·exact hi
 ·left;simp only [bT];rw [if_neg];rintro⟨rfl,rfl⟩;omega
theorem Inv.fW(_hI:Inv F w A X h)(o:Obj):bC w A (w.alloc o) (fun b=>A b\/b=w.heap.size):=
 ⟨by simp,fun b hb hA=>⟨Below.heap_alloc w o b hb,fun hh=>by rcases hh with hh|hh;exact hA hh;omega⟩⟩
theorem Inv.alloc(hI:Inv F w A X h)(s:Nat)(B:dZ)(arr:Array Value)(cap:Nat)(hfz:B.fz=false)(v8:B.els.length<=cap)(hm:cap<=maxLen)(z5:∀row∈B.els,row.length=B.z)
  (hsz:arr.size=cap * B.z)
  (hc:∀e j row c,B.els[e]?=some row->row[j]?=some c->∃u,arr[e * B.z+j]?=some u/\u.oneCell'=true/\RV w A X c u/\(B.cl=true->PV w A c u)) :
  Inv F (w.alloc (.cells arr B.ty)) (fun b=>A b\/b=w.heap.size) (bT w X h s B cap) (bD h s B):=by
 have hL:=hI.fW (.cells arr B.ty);have hX:=hI.nw s B cap;refine {gl:=hI.gl.mono hL,oV:=?_,iE:=?_,ep:=?_,os:=hI.os,tape:=hI.tape,output:=hI.output,size:=?_,same:=?_,xle:=hI.xle.trans hX,nb:=?_,blk:=?_,inj:=?_}
 ·rintro b (hb|rfl)
  ·have:=hI.oV b hb;simp;omega
  ·simp
 ·rintro b hb (h1|rfl)
  ·exact hI.iE b hb h1
  ·have:=hI.size;omega
 ·intro b hb h1 h2;exact .inl (hI.ep b hb h1 h2)
 ·have:=hI.size;simp;omega
 ·intro b hb hM;have:=hI.size;rw [Below.heap_alloc w _ b (by omega)];exact hI.same b hb hM
 ·intro s';rw [sB];simp only [bT];have:=hI.nb s';split
  ·rename_i hs;subst hs;omega
  ·omega
 ·intro s' i' B' mg;by_cases v6:s'=s/\i'=hnext h s
  ·obtain⟨rfl,rfl⟩:=v6;rw [dI]at mg;obtain rfl:=Option.some.inj mg;have hD:(bT w X h s' B cap).D s' (hnext h s')={b:=w.heap.size,z:=B.z,len:=B.els.length,v:=.slice (some ⟨w.heap.size,0,none⟩) B.els.length cap}:=(by simp [bT]);refine {hN:=by simp [bT],hz:=by rw [hD],hlen:=by rw [hD],rows:=z5,mem:=.inr ⟨arr,cap,?_,?_,v8,hm,by rw [hD,hsz,Nat.zero_add];exact Nat.le_refl _,?_,?_,?_⟩}
   ·rw [hD];exact heap_alloc_new w _
   ·rw [hD]
   ·intro e j row c he hj;obtain⟨u,h1,h2,h3,h4⟩:=hc e j row c he hj;exact⟨u,by rw [hD,Nat.zero_add];exact h1,h2,h3.mono hL hX,fun cZ=>(h4 cZ).mono hL⟩
   ·rw [hfz];simp
   ·intro _;rw [hD];exact⟨.inr rfl,.inr hI.size⟩
  ·rw [eL h s s' i' B (fun e hi=>v6 ⟨e,hi⟩)]at mg;have ho:=hI.blk s' i' B' mg;have hD:(bT w X h s B cap).D s' i'=X.D s' i':=(by simp only [bT];rw [if_neg v6]);refine {hN:=(hX s' i' ho.hN).1,hz:=by rw [hD];exact ho.hz,hlen:=by rw [hD];exact ho.hlen,rows:=ho.rows,mem:=?_};rw [hD];rcases ho.mem with hm'|⟨Oe,cap',h1,h2,h3,h4,h5,h6,h7,h8⟩
   ·exact .inl hm'
   ·have v0:(X.D s' i').b<w.heap.size:=(Array.getElem?_eq_some_iff.1 h1).1;refine .inr ⟨Oe,cap',?_,h2,h3,h4,h5,?_,?_,?_⟩
    ·rw [Below.heap_alloc w _ _ v0];exact h1
    ·intro e j row c he hj;obtain⟨u,g1,g2,g3,g4⟩:=h6 e j row c he hj;exact⟨u,g1,g2,g3.mono hL hX,fun cZ=>(g4 cZ).mono hL⟩
    ·rintro hf (hb|hb)
     ·exact h7 hf hb
     ·omega
    ·intro hf;exact⟨.inl (h8 hf).1,(h8 hf).2⟩
 ·intro s1 i1 B1 s2 i2 B2 ez kJ kR jP v5;have key:∀s' i' B',aL (bD h s B) s' i'=some B'->((bT w X h s B cap).D s' i').real->(s'=s/\i'=hnext h s/\((bT w X h s B cap).D s' i').b=w.heap.size)\/(aL h s' i'=some B'/\(bT w X h s B cap).D s' i'=X.D s' i'/\(X.D s' i').b<w.heap.size):=by
   intro s' i' B' mg hr;by_cases v6:s'=s/\i'=hnext h s
   ·left;exact⟨v6.1,v6.2,by simp [bT,v6]⟩
   ·right;rw [eL h s s' i' B (fun e hi=>v6 ⟨e,hi⟩)]at mg;have ho:=hI.blk s' i' B' mg;have hD:(bT w X h s B cap).D s' i'=X.D s' i':=(by simp only [bT];rw [if_neg v6]);refine⟨mg,hD,?_⟩;rw [hD]at hr;rcases ho.mem with hm'|⟨Oe,cap',h1,_⟩
    ·exact absurd hm'.1 hr
    ·exact(Array.getElem?_eq_some_iff.1 h1).1
  rcases key s1 i1 B1 ez kR with⟨e1,e1',apk⟩|⟨g1,d1,l1⟩<;>rcases key s2 i2 B2 kJ jP with⟨e2,e2',apl⟩|⟨g2,d2,l2⟩
  ·exact⟨e1.trans e2.symm,e1'.trans e2'.symm⟩
  ·rw [apk,d2]at v5;omega
  ·rw [apl,d1]at v5;omega
  ·rw [d1,d2]at v5;rw [d1]at kR;rw [d2]at jP;exact hI.inj s1 i1 B1 s2 i2 B2 g1 g2 kR jP v5
end alloc
end Go.Sx
end
section
namespace Go.Sx
open Go.RowKit
variable [aO]
omit [aO]in
theorem xW(row cs:List V)(j k:Nat)(hj:j+cs.length<=row.length) :
  (splice row j cs)[k]?=if k<j then row[k]? else if k<j+cs.length then cs[k - j]? else row[k]?:=by
 unfold splice;rw [List.append_assoc,List.getElem?_append,List.length_take];have hm:min j row.length=j:=by omega
 rw [hm];by_cases h1:k<j
 ·simp only [h1,if_true];rw [List.getElem?_take];simp [h1]
 ·simp only [h1,if_false];rw [List.getElem?_append];by_cases h2:k<j+cs.length
  ·have:k - j<cs.length:=(by omega);simp [h2,this]
  ·have:¬ k - j<cs.length:=(by omega);simp only [h2,this,if_false];rw [List.getElem?_drop];congr 1;omega
omit [aO]in
theorem mC(row cs:List V)(j:Nat)(hj:j+cs.length<=row.length):(splice row j cs).length=row.length:=by simp [splice];omega
omit [aO]in
theorem JF{e e' z j j' m:Nat}(v3:e'≠e)(hj:j+m<=z)(hj':j'<z):e' * z+j'<e * z+j\/e * z+j+m<=e' * z+j':=by
 rcases Nat.lt_or_gt_of_ne v3 with h|h
 ·left;have:(e'+1) * z<=e * z:=Nat.mul_le_mul_right z h;rw [Nat.add_mul]at this;omega
 ·right;have:(e+1) * z<=e' * z:=Nat.mul_le_mul_right z h;rw [Nat.add_mul]at this;omega
omit [aO]in
theorem xK(l vs:List Value)(o k:Nat)(ho:o+vs.length<=l.length) :
  (l.take o++vs++l.drop (o+vs.length))[k]?=if k<o then l[k]? else if k<o+vs.length then vs[k - o]? else l[k]?:=by
 rw [List.append_assoc,List.getElem?_append,List.length_take];have hm:min o l.length=o:=by omega
 rw [hm];by_cases h1:k<o
 ·simp only [h1,if_true];rw [List.getElem?_take];simp [h1]
 ·simp only [h1,if_false];rw [List.getElem?_append];by_cases h2:k<o+vs.length
  ·have:k - o<vs.length:=(by omega);simp [h2,this]
  ·have:¬ k - o<vs.length:=(by omega);simp only [h2,this,if_false];rw [List.getElem?_drop];congr 1;omega
section
variable {F:Fr} {w:World} {A:Nat->Prop} {X:Refs} {h:Hp}
theorem Inv.turn(hI:Inv F w A X h){s i:Nat}{B B':dZ}(hB:aL h s i=some B){w':World}(hsz:w'.heap.size=w.heap.size)(vX:w'.os=w.os)(z0:w'.tape=w.tape)(vx:w'.output=w.output)
  (hfz:B.fz=false) (fE:(X.D s i).real)
  (I8:∀b,b≠(X.D s i).b->w'.heap[b]?=w.heap[b]?)
  (hok:bC w A w' A->BOK F w' A X s i B'):bC w A w' A/\Inv F w' A X (bE h s i B'):=by
 have hb:=hI.blk s i B hB;have hown:A (X.D s i).b/\(F.M (X.D s i).b\/F.w0.heap.size<=(X.D s i).b):=by
  rcases hb.mem with hm|⟨arr,cap,_,_,_,_,_,_,_,h8⟩
  ·exact absurd hm.1 fE
  ·exact h8 hfz
 have hL:bC w A w' A:=⟨by omega,fun b v0 hA=>⟨I8 b (fun e=>hA (e ▸ hown.1)),hA⟩⟩
 refine⟨hL,{gl:=hI.gl.mono hL,oV:=?_,iE:=hI.iE,ep:=hI.ep,os:=vX.trans hI.os,tape:=z0.trans hI.tape,output:=vx.trans hI.output,size:=by have:=hI.size;omega,same:=?_,xle:=hI.xle,nb:=fun s'=>by rw [vo];exact hI.nb s',blk:=?_,inj:=?_}⟩
 ·intro b hA;have:=hI.oV b hA;omega
 ·intro b v0 hM;rw [I8 b (fun e=>?_)]
  ·exact hI.same b v0 hM
  ·rcases hown.2 with h1|h1
   ·exact hM (e ▸ h1)
   ·omega
 ·intro s' i' B1 rj;by_cases v2:s'=s/\i'=i
  ·obtain⟨rfl,rfl⟩:=v2;rw [gH hB]at rj;obtain rfl:=Option.some.inj rj;exact hok hL
  ·rw [eW h B' v2 (kS hB)]at rj;have ho:=hI.blk s' i' B1 rj;refine {hN:=ho.hN,hz:=ho.hz,hlen:=ho.hlen,rows:=ho.rows,mem:=?_};rcases ho.mem with hm|⟨arr,cap,h1,h2,h3,h4,h5,h6,h7,h8⟩
   ·exact .inl hm
   ·refine .inr ⟨arr,cap,?_,h2,h3,h4,h5,?_,h7,h8⟩
    ·rw [I8 _ (fun e=>v2 ?_)]
     ·exact h1
     ·exact hI.inj s' i' B1 s i B rj hB (by unfold Hd.real;rw [h2];simp) fE e
    ·intro e j row c he hj;obtain⟨u,g1,g2,g3,g4⟩:=h6 e j row c he hj;exact⟨u,g1,g2,g3.mono hL (fH.refl X),fun cZ=>(g4 cZ).mono hL⟩
 ·intro s1 i1 B1 s2 i2 B2 ez kJ kR jP v5;have key:∀s' i' B1,aL (bE h s i B') s' i'=some B1->∃B2,aL h s' i'=some B2:=by
   intro s' i' B1 rj;by_cases v2:s'=s/\i'=i
   ·obtain⟨rfl,rfl⟩:=v2;exact⟨B,hB⟩
   ·rw [eW h B' v2 (kS hB)]at rj;exact⟨_,rj⟩
  obtain⟨C1,z9⟩:=key _ _ _ ez;obtain⟨C2,za⟩:=key _ _ _ kJ;exact hI.inj s1 i1 C1 s2 i2 C2 z9 za kR jP v5
omit [aO]in
theorem BOK.real{s i:Nat}{B:dZ}(hb:BOK F w A X s i B)(v3:B.els≠[]):(X.D s i).real:=by
 rcases hb.mem with hm|⟨arr,cap,_,h2,_⟩
 ·exact absurd hm.2 v3
 ·unfold Hd.real;rw [h2];simp
theorem Inv.store(P:Program)(hI:Inv F w A X h){s i e j:Nat}{B:dZ}(hB:aL h s i=some B)(hfz:B.fz=false)(he:e<B.els.length){cs:List V}{us:Array Value}(hj:j+cs.length<=B.z)
  (hcs:gW w A X cs us) :
  ∃w',(storeCells ⟨(X.D s i).b,(X.D s i).o+e * B.z+j,none⟩ us.toList).run P w=.ok () w'/\bC w A w' A/\
   Inv F w' A X (bE h s i {B with els:=B.els.set e (splice (B.els.getD e []) j cs),cl:=B.cl && cs.all V.cD}):=by
 have hb:=hI.blk s i B hB;have v3:B.els≠[]:=fun hh=>by rw [hh]at he;simp at he
 have fE:=hb.real v3;rcases hb.mem with hm|⟨arr,cap,h1,h2,h3,h4,h5,h6,h7,h8⟩
 ·exact absurd hm.2 v3
 have v4:B.els.getD e []=B.els[e]:=by simp [List.getD,List.getElem?_eq_getElem he]
 have z1:(B.els[e]).length=B.z:=hb.rows _ (List.getElem_mem he);have vP:(e+1) * B.z<=cap * B.z:=Nat.mul_le_mul_right _ (by omega);have v7:(X.D s i).o+e * B.z+j+cs.length<=arr.size:=by rw [Nat.add_mul]at vP;omega
 have akt:us.toList.length=cs.length:=by simpa using hcs.1
 have hrun:=run_storeCells_at P (X.D s i).b ((X.D s i).o+e * B.z+j) B.ty us.toList 0 arr w h1 (by rw [akt];simpa using v7) (by
  intro v hv;obtain⟨k,hk⟩:=List.mem_iff_getElem?.1 hv;have hk':us[k]?=some v:=by simpa using hk
  have v0:k<cs.length:=by have:=(Array.getElem?_eq_some_iff.1 hk').1;rw [hcs.1]at this;exact this
  obtain⟨u,g1,g2,_⟩:=hcs.2 k cs[k] (List.getElem?_eq_getElem v0);rw [hk']at g1;cases g1;exact g2)
 simp only [Nat.add_zero]at hrun;refine⟨_,hrun,hI.turn hB (by simp [World.setRow]) rfl rfl rfl hfz fE (fun b UM=>setRow_other w _ b _ UM) ?_⟩;intro hL;have va:(X.D s i).o+e * B.z+j+us.toList.length<=arr.toList.length:=by rw [akt];simpa using v7
 refine {hN:=hb.hN,hz:=hb.hz,hlen:=by rw [hb.hlen];simp,rows:=?_,mem:=.inr ⟨_,cap,setRow_heap w _ arr _ B.ty _ h1,by simpa using h2,by simpa using h3,h4,?_,?_,h7,h8⟩}
 ·intro row hr;rcases List.mem_or_eq_of_mem_set hr with hr|rfl
  ·exact hb.rows row hr
  ·rw [mC,v4,z1];rw [v4,z1];exact hj
 ·simp only [List.size_toArray,List.length_append,List.length_take,List.length_drop,Array.length_toList];simp at va;omega
 ·intro e' j' row c he' hj';simp only at he';by_cases z2:e'=e
  ·subst z2;rw [List.getElem?_set_self he]at he';obtain rfl:=Option.some.inj he';rw [v4,xW _ _ _ _ (by rw [z1];exact hj)]at hj';have zt:j'<B.z\/B.z<=j':=(by omega);simp only [List.getElem?_toArray];rw [xK _ _ _ _ va];by_cases c1:j'<j
   ·rw [if_pos c1]at hj';obtain⟨u,g1,g2,g3,g4⟩:=h6 e' j' B.els[e'] c (List.getElem?_eq_getElem he) hj';refine⟨u,?_,g2,g3.mono hL (fH.refl X),fun cZ=>(g4 (by simp at cZ;exact cZ.1)).mono hL⟩;rw [if_pos (by omega)];simpa using g1
   ·rw [if_neg c1]at hj';by_cases c2:j'<j+cs.length
    ·rw [if_pos c2]at hj';obtain⟨u,g1,g2,g3⟩:=hcs.2 (j' - j) c hj';refine⟨u,?_,g2,g3.mono hL (fH.refl X),fun cZ=>?_⟩
     ·rw [if_neg (by omega),if_pos (by omega)];rw [show(X.D s i).o+e' * B.z+j' - ((X.D s i).o+e' * B.z+j)=j' - j by omega];simpa using g1
     ·simp only [Bool.and_eq_true,List.all_eq_true]at cZ;exact PV.mono hL (PV.lq g3 (cZ.2 c (List.mem_of_getElem? hj')))
    ·rw [if_neg c2]at hj';obtain⟨u,g1,g2,g3,g4⟩:=h6 e' j' B.els[e'] c (List.getElem?_eq_getElem he) hj';refine⟨u,?_,g2,g3.mono hL (fH.refl X),fun cZ=>(g4 (by simp at cZ;exact cZ.1)).mono hL⟩;rw [if_neg (by omega),if_neg (by omega)];simpa using g1
  ·rw [List.getElem?_set_ne (fun hh=>z2 hh.symm)]at he';obtain⟨u,g1,g2,g3,g4⟩:=h6 e' j' row c he' hj';have vV:j'<B.z:=(by rw [<-hb.rows row (List.mem_of_getElem? he')];exact(List.getElem?_eq_some_iff.1 hj').1);refine⟨u,?_,g2,g3.mono hL (fH.refl X),fun cZ=>(g4 (by simp at cZ;exact cZ.1)).mono hL⟩;simp only [List.getElem?_toArray];rw [xK _ _ _ _ va];rcases JF z2 hj vV with hc|hc
   ·rw [if_pos (by omega)];simpa using g1
   ·rw [if_neg (by omega),if_neg (by omega)];simpa using g1
def Refs.put(X:Refs)(s i:Nat)(d:Hd):Refs:={X with D:=fun s' i'=>if s'=s/\i'=i then d else X.D s' i'}
omit [aO]in
theorem Refs.cC(X:Refs)(s i:Nat)(d:Hd):(X.put s i d).D s i=d:=by simp [Refs.put]
omit [aO]in
theorem Refs.jH(X:Refs){s i s' i':Nat}(d:Hd)(v3:¬ (s'=s/\i'=i)):(X.put s i d).D s' i'=X.D s' i':=by simp only [Refs.put];rw [if_neg v3]
theorem Inv.UN(hI:Inv F w A X h){s i:Nat}{B B':dZ}(hB:aL h s i=some B){w':World}{A':Nat->Prop}{d':Hd}(hsz:w.heap.size<=w'.heap.size)(vX:w'.os=w.os)(z0:w'.tape=w.tape)(vx:w'.output=w.output)
  (hfz:B.fz=false)
  (I8:∀b,b<w.heap.size->((X.D s i).real->b≠(X.D s i).b)->w'.heap[b]?=w.heap[b]?)
  (yB:∀b,A b->A' b) (Wm:∀b,A' b->A b\/(w.heap.size<=b/\b<w'.heap.size))
  (hlen:d'=X.D s i\/(X.D s i).len<d'.len)
  (hb':d'.real->((X.D s i).real/\d'.b=(X.D s i).b)\/w.heap.size<=d'.b)
  (hok:bC w A w' A'->fH X (X.put s i d')->BOK F w' A' (X.put s i d') s i B') :
  bC w A w' A'/\fH X (X.put s i d')/\Inv F w' A' (X.put s i d') (bE h s i B'):=by
 have hb:=hI.blk s i B hB;have hown:(X.D s i).real->A (X.D s i).b/\(F.M (X.D s i).b\/F.w0.heap.size<=(X.D s i).b):=by
  intro fE;rcases hb.mem with hm|⟨arr,cap,_,_,_,_,_,_,_,h8⟩
  ·exact absurd hm.1 fE
  ·exact h8 hfz
 have hL:bC w A w' A':=⟨hsz,fun b v0 hA=>⟨I8 b v0 (fun hr e=>hA (e ▸ (hown hr).1)),fun hh=>by rcases Wm b hh with h1|h1;exact hA h1;omega⟩⟩
 have hX:fH X (X.put s i d'):=by
  intro s' i' hi;refine⟨hi,?_⟩;by_cases v2:s'=s/\i'=i
  ·obtain⟨rfl,rfl⟩:=v2;rw [Refs.cC];exact hlen
  ·rw [Refs.jH X d' v2];exact .inl rfl
 refine⟨hL,hX,{gl:=hI.gl.mono hL,oV:=?_,iE:=?_,ep:=fun b h1 h2 h3=>yB b (hI.ep b h1 h2 h3),os:=vX.trans hI.os,tape:=z0.trans hI.tape,output:=vx.trans hI.output,size:=by have:=hI.size;omega,same:=?_,xle:=hI.xle.trans hX,nb:=fun s'=>by rw [vo];exact hI.nb s',blk:=?_,inj:=?_}⟩
 ·intro b hA;rcases Wm b hA with h1|h1
  ·have:=hI.oV b h1;omega
  ·exact h1.2
 ·intro b v0 hA;rcases Wm b hA with h1|h1
  ·exact hI.iE b v0 h1
  ·have:=hI.size;omega
 ·intro b v0 hM;have:=hI.size;rw [I8 b (by omega) (fun hr e=>?_)]
  ·exact hI.same b v0 hM
  ·rcases(hown hr).2 with h1|h1
   ·exact hM (e ▸ h1)
   ·omega
 ·intro s' i' B1 rj;by_cases v2:s'=s/\i'=i
  ·obtain⟨rfl,rfl⟩:=v2;rw [gH hB]at rj;obtain rfl:=Option.some.inj rj;exact hok hL hX
  ·rw [eW h B' v2 (kS hB)]at rj;have ho:=hI.blk s' i' B1 rj;have hD:=Refs.jH X d' v2;refine {hN:=ho.hN,hz:=by rw [hD];exact ho.hz,hlen:=by rw [hD];exact ho.hlen,rows:=ho.rows,mem:=?_};rw [hD];rcases ho.mem with hm|⟨arr,cap,h1,h2,h3,h4,h5,h6,h7,h8⟩
   ·exact .inl hm
   ·have v0:(X.D s' i').b<w.heap.size:=(Array.getElem?_eq_some_iff.1 h1).1;refine .inr ⟨arr,cap,?_,h2,h3,h4,h5,?_,?_,?_⟩
    ·rw [I8 _ v0 (fun hr e=>v2 ?_)]
     ·exact h1
     ·exact hI.inj s' i' B1 s i B rj hB (by unfold Hd.real;rw [h2];simp) hr e
    ·intro e j row c he hj;obtain⟨u,g1,g2,g3,g4⟩:=h6 e j row c he hj;exact⟨u,g1,g2,g3.mono hL hX,fun cZ=>(g4 cZ).mono hL⟩
    ·intro hf hh;rcases Wm _ hh with pI|pI
     ·exact h7 hf pI
     ·omega
    ·intro hf;exact⟨yB _ (h8 hf).1,(h8 hf).2⟩
 ·intro s1 i1 B1 s2 i2 B2 ez kJ kR jP v5;have key:∀s' i' B1,aL (bE h s i B') s' i'=some B1->((X.put s i d').D s' i').real->(s'=s/\i'=i/\(((X.D s i).real/\d'.b=(X.D s i).b)\/w.heap.size<=d'.b))\/(¬ (s'=s/\i'=i)/\aL h s' i'=some B1/\(X.D s' i').real/\(X.D s' i').b<w.heap.size):=by
   intro s' i' B1 rj hr;by_cases v2:s'=s/\i'=i
   ·obtain⟨rfl,rfl⟩:=v2;rw [Refs.cC]at hr;exact .inl ⟨rfl,rfl,hb' hr⟩
   ·rw [eW h B' v2 (kS hB)]at rj;rw [Refs.jH X d' v2]at hr;refine .inr ⟨v2,rj,hr,?_⟩;rcases(hI.blk s' i' B1 rj).mem with hm|⟨arr,cap,h1,_⟩
    ·exact absurd hm.1 hr
    ·exact(Array.getElem?_eq_some_iff.1 h1).1
  rcases key _ _ _ ez kR with⟨e1,e1',c1⟩|⟨n1,g1,r1,l1⟩<;>rcases key _ _ _ kJ jP with⟨e2,e2',c2⟩|⟨n2,g2,r2,l2⟩
  ·exact⟨e1.trans e2.symm,e1'.trans e2'.symm⟩
  ·rw [e1,e1',Refs.cC,Refs.jH X d' n2]at v5;rcases c1 with⟨r,c1⟩|c1
   ·have:=hI.inj s i B s2 i2 B2 hB g2 r r2 (c1.symm.trans v5);exact absurd ⟨this.1.symm,this.2.symm⟩ n2
   ·omega
  ·rw [e2,e2',Refs.cC,Refs.jH X d' n1]at v5;rcases c2 with⟨r,c2⟩|c2
   ·have:=hI.inj s1 i1 B1 s i B g1 hB r1 r (v5.trans c2);exact absurd this n1
   ·omega
  ·rw [Refs.jH X d' n1,Refs.jH X d' n2]at v5;exact hI.inj s1 i1 B1 s2 i2 B2 g1 g2 r1 r2 v5
structure Src (P:Program) (w:World) (A:Nat->Prop) (X:Refs) (size:Nat) (x:Value) (els:List (List V)) (cl:Bool) (news:List Value):Prop where
 shape:∃a c,x=.slice a els.length c
 run:(Builtin.firstCells size els.length x).run P w=.ok news.toArray w
 run':(Builtin.firstCells size els.length x).run P w.drew=.ok news.toArray w.drew
 rows:∀row∈els,row.length=size
 len:news.length=els.length * size
 cells:∀e j row c,els[e]?=some row->row[j]?=some c->∃u,news[e * size+j]?=some u/\RV w A X c u/\(cl=true->PV w A c u)
 one:∀u∈news,u.oneCell'=true
omit [aO]in
theorem UO{els:List (List V)}{e:Nat}{row:List V}(cI:List (List V))(he:(els++cI)[e]?=some row):(e<els.length/\els[e]?=some row)\/(els.length<=e/\cI[e - els.length]?=some row):=by
 rw [List.getElem?_append]at he;split at he
 ·rename_i v0;exact .inl ⟨v0,he⟩
 ·rename_i v0;exact .inr ⟨by omega,he⟩
end
end Go.Sx
end
section
namespace Go.Sx
open Go.RowKit
variable [aO]
section
variable {F:Fr} {w:World} {A:Nat->Prop} {X:Refs} {h:Hp}
omit [aO]in
theorem kH(P:Program)(t ty e:TypeId)(i:TypeInfo)(ht:P.underlying t=some (.slice e))(hi:P.info? e=some i)(g o n cap:Nat)(cur:Array Value)(hg:w.heap[g]?=some (.cells cur e (0,0)))
  {x:Value} {els:List (List V)} {cl:Bool} {news:List Value} (hs:Src P w A X i.size x els cl news) (v9:n+els.length<=cap) (v7:o+n * i.size+news.length<=cur.size) :
  (Builtin.append_ #[t,t] ty #[.slice (some ⟨g,o,none⟩) n cap,x]).run P w =
   .ok (.slice (some ⟨g,o,none⟩) (n+els.length) cap) (w.setRow g (cur.toList.take (o+n * i.size)++news++cur.toList.drop (o+n * i.size+news.length)).toArray):=by
 obtain⟨a,c,rfl⟩:=hs.shape;have hf:=hs.run;have z6:=run_storeCells_at P g (o+n * i.size) e news 0 cur w hg (by simpa using v7) hs.one;simp only [Nat.add_zero]at z6;simp [Builtin.append_,run_underlying ht,sizeOf,typeInfo,hi,Builtin.lenOf,v9,hf,dJ,z6]
omit [aO]in
theorem qX(P:Program)(t ty e:TypeId)(i:TypeInfo)(ht:P.underlying t=some (.slice e))(hi:P.info? e=some i)
  {x:Value} {els:List (List V)} {cl:Bool} {news:List Value} (hs:Src P w A X i.size x els cl news) (h0:els.length=0) :
  (Builtin.append_ #[t,t] ty #[.slice none 0 0,x]).run P w=.ok (.slice none 0 0) w:=by
 obtain⟨a,c,rfl⟩:=hs.shape;have hf:=hs.run;rw [h0]at hf ⊢;simp [Builtin.append_,run_underlying ht,sizeOf,typeInfo,hi,Builtin.lenOf,hf]
omit [aO]in
theorem qY(P:Program)(t ty e:TypeId)(i:TypeInfo)(ht:P.underlying t=some (.slice e))(hi:P.info? e=some i)(b:Addr)
  {x:Value} {els:List (List V)} {cl:Bool} {news:List Value} (hs:Src P w A X i.size x els cl news) (h0:els.length=0) :
  (Builtin.append_ #[t,t] ty #[.slice (some b) 0 0,x]).run P w=.ok (.slice (some b) 0 0) w:=by
 obtain⟨a,c,rfl⟩:=hs.shape;have hf:=hs.run;have hn:news=[]:=List.eq_nil_of_length_eq_zero (by rw [hs.len,h0,Nat.zero_mul]);subst hn;rw [h0]at hf ⊢;simp [Builtin.append_,run_underlying ht,sizeOf,typeInfo,hi,Builtin.lenOf,hf,storeCells]
omit [aO]in
theorem sD(P:Program)(t ty e:TypeId)(i:TypeInfo)(z:Value)(ht:P.underlying t=some (.slice e))(hi:P.info? e=some i)(hz:i.zero=some z)
  {x:Value} {els:List (List V)} {cl:Bool} {news:List Value} (hs:Src P w A X i.size x els cl news) (h0:0<els.length) (vd:(els.length:Int)<=9223372036854775807) (zE:els.length * i.bytes<=281474976710656) :
  (Builtin.append_ #[t,t] ty #[.slice none 0 0,x]).run P w =
   .ok (.slice (some ⟨w.heap.size,0,none⟩) els.length (grownCap w els.length 0 e)) (w.drew.alloc (.cells (news.toArray++Builtin.zeroCells z.cells (grownCap w els.length 0 e - els.length)) e)):=by
 obtain⟨a,c,rfl⟩:=hs.shape;have hn:¬ els.length=0:=by omega
 have hn':¬ els=[]:=fun hh=>by rw [hh]at h0;simp at h0
 have vr:¬ (9223372036854775807<(els.length:Int)):=by omega
 have UP:¬ (281474976710656<Builtin.nextslicecap els.length 0 * i.bytes):=by rw [nextslicecap_zero h0];omega
 have hf:=hs.run';simp [Builtin.append_,run_underlying ht,sizeOf,typeInfo,zeroValue,hi,hz,Builtin.lenOf,hn',vr,UP,Question.forced,run_firstCells_none,hf,newRow,grownCap]
omit [aO]in
theorem kI(P:Program)(t ty e:TypeId)(i:TypeInfo)(z:Value)(ht:P.underlying t=some (.slice e))(hi:P.info? e=some i)(hz:i.zero=some z)
  (b:Addr) (n cap:Nat) (olds:List Value) (hlo:olds.length=n * i.size) (holds:∀j v,olds[j]?=some v->w.cell? (b.add j)=some v)
  {x:Value} {els:List (List V)} {cl:Bool} {news:List Value} (hs:Src P w A X i.size x els cl news)
  (hg:cap<n+els.length) (vd:((n+els.length:Nat):Int)<=9223372036854775807) (v7:Builtin.nextslicecap (n+els.length) cap * i.bytes<=281474976710656) :
  (Builtin.append_ #[t,t] ty #[.slice (some b) n cap,x]).run P w =
   .ok (.slice (some ⟨w.heap.size,0,none⟩) (n+els.length) (grownCap w (n+els.length) cap e))
    (w.drew.alloc (.cells (olds.toArray++news.toArray++Builtin.zeroCells z.cells (grownCap w (n+els.length) cap e - (n+els.length))) e)):=by
 obtain⟨a,c,rfl⟩:=hs.shape;have hn:¬ (n+els.length<=cap):=by omega
 have vr:¬ (9223372036854775807<((n:Int)+(els.length:Int))):=by omega
 have UP:¬ (281474976710656<Builtin.nextslicecap (n+els.length) cap * i.bytes):=by omega
 have hf:=hs.run';have zd:=run_firstCells_some (P:=P) w.drew i.size n b n cap olds hlo (by simpa using holds);simp [Builtin.append_,run_underlying ht,sizeOf,typeInfo,zeroValue,hi,hz,Builtin.lenOf,hn,vr,UP,Question.forced,hf,zd,newRow,grownCap];congr 2;apply Array.ext';simp [List.append_assoc]
theorem Inv.drew(hI:Inv F w A X h):bC w A w.drew A/\Inv F w.drew A X h:=by
 have hL:bC w A w.drew A:=⟨Nat.le_refl _,fun _ _ hA=>⟨rfl,hA⟩⟩
 refine⟨hL,{gl:=hI.gl.mono hL,oV:=hI.oV,iE:=hI.iE,ep:=hI.ep,os:=hI.os,tape:=hI.tape,output:=hI.output,size:=hI.size,same:=hI.same,xle:=hI.xle,nb:=hI.nb,blk:=?_,inj:=hI.inj}⟩;intro s i B hB;have ho:=hI.blk s i B hB;refine {hN:=ho.hN,hz:=ho.hz,hlen:=ho.hlen,rows:=ho.rows,mem:=?_};rcases ho.mem with hm|⟨arr,cap,h1,h2,h3,h4,h5,h6,h7,h8⟩
 ·exact .inl hm
 ·refine .inr ⟨arr,cap,h1,h2,h3,h4,h5,?_,h7,h8⟩;intro e j row c he hj;obtain⟨u,g1,g2,g3,g4⟩:=h6 e j row c he hj;exact⟨u,g1,g2,g3.mono hL (fH.refl X),fun cZ=>(g4 cZ).mono hL⟩
omit [aO]in
theorem rP{e j z n:Nat}(he:e<n)(hj:j<z):e * z+j<n * z:=by have:(e+1) * z<=n * z:=Nat.mul_le_mul_right z he;rw [Nat.add_mul]at this;omega
theorem Inv.append(P:Program)(hI:Inv F w A X h){s i:Nat}{B:dZ}(hB:aL h s i=some B)(hfz:B.fz=false){T ty e:TypeId}{ti:TypeInfo}{zv:Value}(ht:P.underlying T=some (.slice e))(hi:P.info? e=some ti)
  (hzv:ti.zero=some zv) (hty:B.ty=e) (Ee:ti.size=B.z) (OS:0<B.z) (zo:zv.cells.size=B.z) {x:Value} {cI:List (List V)} {BR:Bool} {news:List Value} (v1:Src P w A X B.z x cI BR news)
  (hbytes:(B.els.length+cI.length) * ti.bytes<=140737488355328) (vd:B.els.length+cI.length<=maxLen) :
  ∃v' w' A' X',(Builtin.append_ #[T,T] ty #[(X.D s i).v,x]).run P w=.ok v' w'/\bC w A w' A'/\fH X X'/\
   Inv F w' A' X' (bE h s i {B with els:=B.els++cI,cl:=B.cl && BR})/\RV w' A' X' (.bw s i (B.els.length+cI.length)) v':=by
 have hb:=hI.blk s i B hB;have vr:((B.els.length+cI.length:Nat):Int)<=9223372036854775807:=by simp only [maxLen]at vd;omega
 subst hty;rw [<-Ee]at v1
 have F6:∀(old:List Value) (tail:Array Value),old.length=B.els.length * B.z->
   (∀e j row c,B.els[e]?=some row->row[j]?=some c->∃u,old[e * B.z+j]?=some u/\u.oneCell'=true/\RV w A X c u/\(B.cl=true->PV w A c u))->
   ∀e j row c,(B.els++cI)[e]?=some row->row[j]?=some c->∃u,(old++news++tail.toList)[e * B.z+j]?=some u/\u.oneCell'=true/\RV w A X c u/\((B.cl && BR)=true->PV w A c u):=by
  intro old tail jU vb e j row c he hj;rcases UO cI he with⟨v0,he'⟩|⟨zp,he'⟩
  ·obtain⟨u,g1,g2,g3,g4⟩:=vb e j row c he' hj;refine⟨u,?_,g2,g3,fun cZ=>g4 (by simp at cZ;exact cZ.1)⟩;have:e * B.z+j<old.length:=(List.getElem?_eq_some_iff.1 g1).1;rw [List.append_assoc,List.getElem?_append_left this];exact g1
  ·obtain⟨u,g1,g3,g4⟩:=v1.cells _ j row c he' hj;rw [Ee]at g1;refine⟨u,?_,v1.one u (List.mem_of_getElem? g1),g3,fun cZ=>g4 (by simp at cZ;exact cZ.2)⟩;have z7:e * B.z+j=old.length+((e - B.els.length) * B.z+j):=by rw [jU,Nat.sub_mul];have:=Nat.mul_le_mul_right B.z zp;omega
   have v0:(e - B.els.length) * B.z+j<news.length:=(List.getElem?_eq_some_iff.1 g1).1;rw [List.append_assoc,z7,List.getElem?_append_right (by omega),List.getElem?_append_left (by omega)];rw [show old.length+((e - B.els.length) * B.z+j) - old.length=(e - B.els.length) * B.z+j by omega];exact g1
 have LO:∀row∈B.els++cI,row.length=B.z:=by
  intro row hr;rcases List.mem_append.1 hr with hr|hr
  ·exact hb.rows row hr
  ·rw [v1.rows row hr,Ee]
 have fresh:∀(cap:Nat) (old:List Value),cap<=maxLen->B.els.length+cI.length<=cap->(X.D s i).len<B.els.length+cI.length->old.length=B.els.length * B.z->
   (∀e j row c,B.els[e]?=some row->row[j]?=some c->∃u,old[e * B.z+j]?=some u/\u.oneCell'=true/\RV w A X c u/\(B.cl=true->PV w A c u))->
   ∃A' X',bC w A (w.drew.alloc (.cells (old.toArray++news.toArray++Builtin.zeroCells zv.cells (cap - (B.els.length+cI.length))) B.ty)) A'/\fH X X'/\
    Inv F (w.drew.alloc (.cells (old.toArray++news.toArray++Builtin.zeroCells zv.cells (cap - (B.els.length+cI.length))) B.ty)) A' X' (bE h s i {B with els:=B.els++cI,cl:=B.cl && BR})/\
    RV (w.drew.alloc (.cells (old.toArray++news.toArray++Builtin.zeroCells zv.cells (cap - (B.els.length+cI.length))) B.ty)) A' X' (.bw s i (B.els.length+cI.length)) (.slice (some ⟨w.heap.size,0,none⟩) (B.els.length+cI.length) cap):=by
  intro cap old zr v8 hlen jU vb;have ZZ:(old.toArray++news.toArray++Builtin.zeroCells zv.cells (cap - (B.els.length+cI.length))).size=cap * B.z:=by simp only [Array.size_append,List.size_toArray,size_zeroCells,zo,jU,v1.len,Ee,<-Nat.add_mul];congr 1;omega
  have ht:=hI.UN (B':={B with els:=B.els++cI,cl:=B.cl && BR}) (w':=w.drew.alloc (.cells (old.toArray++news.toArray++Builtin.zeroCells zv.cells (cap - (B.els.length+cI.length))) B.ty))
   (A':=fun b=>A b\/b=w.heap.size) (d':={b:=w.heap.size,z:=B.z,len:=B.els.length+cI.length,v:=.slice (some ⟨w.heap.size,0,none⟩) (B.els.length+cI.length) cap}) hB (by simp) rfl rfl rfl hfz
   (fun b v0 _=>Below.heap_alloc w.drew _ b v0) (fun b hA=>.inl hA) (fun b hA=>by rcases hA with hA|rfl;exact .inl hA;exact .inr ⟨Nat.le_refl _,by simp⟩) (.inr hlen) (fun _=>.inr (Nat.le_refl _)) ?_
  ·refine⟨_,_,ht.1,ht.2.1,ht.2.2,?_⟩;refine .bw s i _ _ _ (by simpa [Refs.put]using hb.hN) (by rw [Refs.cC];exact Nat.le_refl _) (fun _=>by rw [Refs.cC])
  ·intro hL hX;refine {hN:=by simpa [Refs.put]using hb.hN,hz:=by rw [Refs.cC],hlen:=by rw [Refs.cC];simp,rows:=LO,mem:=.inr ⟨_,cap,?_,by rw [Refs.cC];simp,by simpa using v8,zr,by rw [Refs.cC,ZZ,Nat.zero_add];exact Nat.le_refl _,?_,?_,?_⟩}
   ·rw [Refs.cC];exact heap_alloc_new w.drew _
   ·intro e j row c he hj;obtain⟨u,g1,g2,g3,g4⟩:=F6 old (Builtin.zeroCells zv.cells (cap - (B.els.length+cI.length))) jU vb e j row c he hj;refine⟨u,?_,g2,g3.mono hL hX,fun cZ=>(g4 cZ).mono hL⟩;rw [Refs.cC,<-Array.getElem?_toList];simpa using g1
   ·rw [show({B with els:=B.els++cI,cl:=B.cl && BR}:dZ).fz=false from hfz];simp
   ·intro _;rw [Refs.cC];exact⟨.inr rfl,.inr hI.size⟩
 rcases hb.mem with⟨hv,F7⟩|⟨arr,cap,h1,h2,h3,h4,h5,h6,h7,h8⟩
 ·have LP:(X.D s i).len=0:=by rw [hb.hlen,F7];rfl
  by_cases hm:cI.length=0
  ·have zs:cI=[]:=List.eq_nil_of_length_eq_zero hm;subst zs;refine⟨.slice none 0 0,w,A,X,?_,bC.refl w A,fH.refl X,?_,?_⟩
   ·rw [hv];exact qX P T ty _ ti ht hi v1 rfl
   ·have hz:bE h s i {B with els:=B.els++[],cl:=B.cl && BR}=bE h s i {B with cl:=B.cl && BR}:=(by rw [List.append_nil]);rw [hz];have hh:=(hI.UN (B':={B with cl:=B.cl && BR}) (d':=X.D s i) (A':=A) hB (Nat.le_refl _) rfl rfl rfl hfz (fun _ _ _=>rfl) (fun _ hA=>hA) (fun _ hA=>.inl hA) (.inl rfl) (fun hr=>absurd hv hr) (by intro _ _;refine {hN:=by simpa [Refs.put]using hb.hN,hz:=by rw [Refs.cC];exact hb.hz,hlen:=by rw [Refs.cC];exact hb.hlen,rows:=hb.rows,mem:=.inl ⟨by rw [Refs.cC];exact hv,F7⟩})).2.2
    have hX:X.put s i (X.D s i)=X:=by
     unfold Refs.put;congr 1;funext s' i';split
     ·rename_i hc;rw [hc.1,hc.2]
     ·rfl
    rw [hX]at hh;exact hh
   ·rw [F7];exact .bw s i 0 none 0 hb.hN (Nat.zero_le _) (fun _=>hv.symm)
  ·have hr:=sD P T ty _ ti zv ht hi hzv v1 (by omega) (by omega) (by have:=hbytes;rw [F7]at this;simp at this;omega);rw [F7]at hbytes vd fresh;simp only [List.length_nil,Nat.zero_add,Nat.zero_mul,List.nil_append]at fresh vd;obtain⟨A',X',f1,f2,f3,f4⟩:=fresh (grownCap w cI.length 0 B.ty) [] (grownCap_le_maxLen w _ 0 B.ty vd) (grownCap_ge w _ 0 B.ty) (by omega) (by simp) (by intro e j row c he;simp at he);simp only [List.toArray,Array.empty_append]at f1 f3 f4;refine⟨_,_,A',X',by rw [hv];exact hr,?_,f2,?_,?_⟩
   ·simpa using f1
   ·rw [F7];simpa using f3
   ·rw [F7];simpa using f4
 ·have LP:(X.D s i).len=B.els.length:=hb.hlen;have vP:B.els.length * B.z<=cap * B.z:=Nat.mul_le_mul_right _ h3;by_cases v9:B.els.length+cI.length<=cap
  ·have v7:(X.D s i).o+B.els.length * ti.size+news.length<=arr.size:=by have:=Nat.mul_le_mul_right B.z v9;rw [Nat.add_mul]at this;rw [v1.len,Ee];omega
   have hr:=kH P T ty _ ti ht hi (X.D s i).b (X.D s i).o B.els.length cap arr h1 v1 v9 v7;rw [Ee]at hr v7;have va:(X.D s i).o+B.els.length * B.z+news.length<=arr.toList.length:=(by simpa using v7);have fE:(X.D s i).real:=(by unfold Hd.real;rw [h2];simp);have ae2:({b:=(X.D s i).b,z:=B.z,len:=B.els.length+cI.length,v:=.slice (some ⟨(X.D s i).b,(X.D s i).o,none⟩) (B.els.length+cI.length) cap,o:=(X.D s i).o}:Hd)=X.D s i\/(X.D s i).len<B.els.length+cI.length:=by
    by_cases hm:cI.length=0
    ·left;have Eh:=hb.hz;rw [hm,Nat.add_zero];cases hd:X.D s i with
     | mk b z len v o=>
      rw [hd]at h2 LP Eh;simp only at h2 LP Eh;subst LP Eh h2;rfl
    ·right;omega
   have ht:=hI.UN (B':={B with els:=B.els++cI,cl:=B.cl && BR}) (w':=w.setRow (X.D s i).b (arr.toList.take ((X.D s i).o+B.els.length * B.z)++news++arr.toList.drop ((X.D s i).o+B.els.length * B.z+news.length)).toArray)
    (A':=A) (d':={b:=(X.D s i).b,z:=B.z,len:=B.els.length+cI.length,v:=.slice (some ⟨(X.D s i).b,(X.D s i).o,none⟩) (B.els.length+cI.length) cap,o:=(X.D s i).o}) hB (by simp) rfl rfl rfl hfz
    (fun b _ v3=>setRow_other w _ b _ (v3 fE)) (fun _ hA=>hA) (fun _ hA=>.inl hA) ae2 (fun _=>.inl ⟨fE,rfl⟩) ?_
   ·refine⟨_,_,_,_,by rw [h2];exact hr,ht.1,ht.2.1,ht.2.2,?_⟩;exact .bw s i _ _ _ (by simpa [Refs.put]using hb.hN) (by rw [Refs.cC];exact Nat.le_refl _) (fun _=>by rw [Refs.cC])
   ·intro hL hX;refine {hN:=by simpa [Refs.put]using hb.hN,hz:=by rw [Refs.cC],hlen:=by rw [Refs.cC];simp,rows:=LO,mem:=.inr ⟨(arr.toList.take ((X.D s i).o+B.els.length * B.z)++news++arr.toList.drop ((X.D s i).o+B.els.length * B.z+news.length)).toArray,cap,?_,by rw [Refs.cC];simp,by simpa using v9,h4,?_,?_,?_,?_⟩}
    ·rw [Refs.cC];exact setRow_heap w _ arr _ B.ty _ h1
    ·rw [Refs.cC];simp only [List.size_toArray,List.length_append,List.length_take,List.length_drop,Array.length_toList];simp at va;omega
    ·intro e j row c he hj;rw [Refs.cC];have vb:∀e j row c,B.els[e]?=some row->row[j]?=some c->∃u,((arr.toList.drop (X.D s i).o).take (B.els.length * B.z))[e * B.z+j]?=some u/\u.oneCell'=true/\RV w A X c u/\(B.cl=true->PV w A c u):=by intro e j row c he hj;obtain⟨u,g1,g2,g3,g4⟩:=h6 e j row c he hj;refine⟨u,?_,g2,g3,g4⟩;have z3:j<B.z:=(by rw [<-hb.rows row (List.mem_of_getElem? he)];exact(List.getElem?_eq_some_iff.1 hj).1);rw [List.getElem?_take_of_lt (rP (List.getElem?_eq_some_iff.1 he).1 z3),List.getElem?_drop,<-Nat.add_assoc];simpa using g1
     obtain⟨u,g1,g2,g3,g4⟩:=F6 _ (arr.toList.drop ((X.D s i).o+B.els.length * B.z+news.length)).toArray (by rw [List.length_take,List.length_drop,Array.length_toList];simp at va;omega) vb e j row c he hj;refine⟨u,?_,g2,g3.mono hL hX,fun cZ=>(g4 cZ).mono hL⟩;have z4:arr.toList.take ((X.D s i).o+B.els.length * B.z)=arr.toList.take (X.D s i).o++(arr.toList.drop (X.D s i).o).take (B.els.length * B.z):=List.take_add ..;simp only [List.getElem?_toArray];rw [z4,List.append_assoc,List.append_assoc,List.getElem?_append_right (by rw [List.length_take];omega),List.length_take,<-List.append_assoc];have vy:min (X.D s i).o arr.toList.length=(X.D s i).o:=(by omega);rw [vy,show(X.D s i).o+e * B.z+j - (X.D s i).o=e * B.z+j by omega];simpa using g1
    ·rw [show({B with els:=B.els++cI,cl:=B.cl && BR}:dZ).fz=false from hfz];simp
    ·intro _;rw [Refs.cC];exact h8 hfz
  ·have holds:∀j v,((arr.toList.drop (X.D s i).o).take (B.els.length * ti.size))[j]?=some v->w.cell? ((⟨(X.D s i).b,(X.D s i).o,none⟩:Addr).add j)=some v:=by
    intro j v hj;rw [dJ];have v0:j<B.els.length * ti.size:=by have:=(List.getElem?_eq_some_iff.1 hj).1;rw [List.length_take]at this;omega
    rw [List.getElem?_take_of_lt v0,List.getElem?_drop]at hj;have hj':arr[(X.D s i).o+j]?=some v:=(by simpa using hj);simp [World.cell?,h1,hj']
   have hr:=kI P T ty _ ti zv ht hi hzv ⟨(X.D s i).b,(X.D s i).o,none⟩ B.els.length cap ((arr.toList.drop (X.D s i).o).take (B.els.length * ti.size)) (by rw [List.length_take,List.length_drop,Array.length_toList,Ee];omega) holds v1 (by omega) vr (growslice_fits (by omega) hbytes);have vb:∀e j row c,B.els[e]?=some row->row[j]?=some c->∃u,((arr.toList.drop (X.D s i).o).take (B.els.length * ti.size))[e * B.z+j]?=some u/\u.oneCell'=true/\RV w A X c u/\(B.cl=true->PV w A c u):=by intro e j row c he hj;obtain⟨u,g1,g2,g3,g4⟩:=h6 e j row c he hj;refine⟨u,?_,g2,g3,g4⟩;have z3:j<B.z:=(by rw [<-hb.rows row (List.mem_of_getElem? he)];exact(List.getElem?_eq_some_iff.1 hj).1);rw [Ee,List.getElem?_take_of_lt (rP (List.getElem?_eq_some_iff.1 he).1 z3),List.getElem?_drop,<-Nat.add_assoc];simpa using g1
   obtain⟨A',X',f1,f2,f3,f4⟩:=fresh (grownCap w (B.els.length+cI.length) cap B.ty) _ (grownCap_le_maxLen w _ cap B.ty vd) (grownCap_ge w _ cap B.ty) (by omega) (by rw [List.length_take,List.length_drop,Array.length_toList,Ee];omega) vb;exact⟨_,_,A',X',by rw [h2];exact hr,f1,f2,f3,f4⟩
theorem Inv.UQ(P:Program)(hI:Inv F w A X h){s i:Nat}{B:dZ}(hB:aL h s i=some B)(hfz:B.fz=false){T ty e:TypeId}{ti:TypeInfo}(ht:P.underlying T=some (.slice e))(hi:P.info? e=some ti)
  (hty:B.ty=e) (Ee:ti.size=B.z) {x:Value} {cI:List (List V)} {BR:Bool} {news:List Value} (v1:Src P w A X B.z x cI BR news) {len cap c:Nat} (mK:cap<=c) (v3:B.els≠[]) (v9:len+cI.length<=cap) (v8:cap<=B.els.length) :
  ∃w',(Builtin.append_ #[T,T] ty #[.slice (some ⟨(X.D s i).b,(X.D s i).o,none⟩) len c,x]).run P w=.ok (.slice (some ⟨(X.D s i).b,(X.D s i).o,none⟩) (len+cI.length) c) w'/\bC w A w' A/\
   Inv F w' A X (bE h s i {B with els:=B.els.take len++cI++B.els.drop (len+cI.length),cl:=B.cl && BR}):=by
 have hb:=hI.blk s i B hB;have fE:=hb.real v3;rcases hb.mem with hm|⟨arr,cap',h1,h2,h3,h4,h5,h6,h7,h8⟩
 ·exact absurd hm.2 v3
 subst hty;have vP:(len+cI.length) * B.z<=cap' * B.z:=Nat.mul_le_mul_right _ (by omega);have va:(X.D s i).o+len * B.z+news.length<=arr.toList.length:=by have e1:arr.toList.length=arr.size:=Array.length_toList;have e2:=v1.len;rw [Nat.add_mul]at vP;omega
 have F8:=v1;rw [<-Ee]at F8;have hr:=kH P T ty _ ti ht hi (X.D s i).b (X.D s i).o len c arr h1 F8 (by omega) (by rw [Ee];simpa using va);rw [Ee]at hr;refine⟨_,hr,hI.turn hB (by simp [World.setRow]) rfl rfl rfl hfz fE (fun b UM=>setRow_other w _ b _ UM) ?_⟩;intro hL;have hlen:(B.els.take len++cI++B.els.drop (len+cI.length)).length=B.els.length:=by simp only [List.length_append,List.length_take,List.length_drop];omega
 refine {hN:=hb.hN,hz:=hb.hz,hlen:=by rw [hb.hlen];exact hlen.symm,rows:=?_,mem:=.inr ⟨_,cap',setRow_heap w _ arr _ B.ty _ h1,by simp only [hlen];exact h2,by simp only [hlen];exact h3,h4,?_,?_,h7,h8⟩}
 ·intro row v4;simp only [List.mem_append]at v4;rcases v4 with(v4|v4)|v4
  ·exact hb.rows row (List.mem_of_mem_take v4)
  ·exact v1.rows row v4
  ·exact hb.rows row (List.mem_of_mem_drop v4)
 ·simp only [List.size_toArray,List.length_append,List.length_take,List.length_drop,Array.length_toList];simp at va;omega
 ·intro e' j' row c he' hj';simp only at he';simp only [List.getElem?_toArray];rw [xK _ _ _ _ va];rw [List.getElem?_append,List.getElem?_append]at he';simp only [List.length_append,List.length_take]at he';have vy:min len B.els.length=len:=by omega
  rw [vy]at he';by_cases c1:e'<len
  ·rw [if_pos (by omega),if_pos c1,List.getElem?_take_of_lt c1]at he';obtain⟨u,g1,g2,g3,g4⟩:=h6 e' j' row c he' hj';have vV:j'<B.z:=(by rw [<-hb.rows row (List.mem_of_getElem? he')];exact(List.getElem?_eq_some_iff.1 hj').1);refine⟨u,?_,g2,g3.mono hL (fH.refl X),fun cZ=>(g4 (by simp at cZ;exact cZ.1)).mono hL⟩;have:=rP c1 vV;rw [if_pos (by omega)];simpa using g1
  ·by_cases c2:e'<len+cI.length
   ·rw [if_pos c2,if_neg c1]at he';obtain⟨u,g1,g3,g4⟩:=v1.cells _ j' row c he' hj';have vV:j'<B.z:=(by rw [<-v1.rows row (List.mem_of_getElem? he')];exact(List.getElem?_eq_some_iff.1 hj').1);have k1:len * B.z<=e' * B.z:=Nat.mul_le_mul_right _ (by omega);have k2:(e' - len) * B.z=e' * B.z - len * B.z:=Nat.sub_mul ..;have k3:(e' - len) * B.z+j'<news.length:=(List.getElem?_eq_some_iff.1 g1).1;refine⟨u,?_,v1.one u (List.mem_of_getElem? g1),g3.mono hL (fH.refl X),fun cZ=>(g4 (by simp at cZ;exact cZ.2)).mono hL⟩;rw [if_neg (by omega),if_pos (by omega),show(X.D s i).o+e' * B.z+j' - ((X.D s i).o+len * B.z)=(e' - len) * B.z+j' by omega];exact g1
   ·rw [if_neg c2,List.getElem?_drop,show len+cI.length+(e' - (len+cI.length))=e' by omega]at he';obtain⟨u,g1,g2,g3,g4⟩:=h6 e' j' row c he' hj';have k1:(len+cI.length) * B.z<=e' * B.z:=Nat.mul_le_mul_right _ (by omega);rw [Nat.add_mul,<-v1.len]at k1;refine⟨u,?_,g2,g3.mono hL (fH.refl X),fun cZ=>(g4 (by simp at cZ;exact cZ.1)).mono hL⟩;rw [if_neg (by omega),if_neg (by omega)];simpa using g1
end
end Go.Sx
end
end
