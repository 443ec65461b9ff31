/- A part of a proof; no conditions. -/
import Derived.Test.YtegiclpanpmkdaaGreatDoorR10
import Derived.Test.YtegiclpanpmkdaaGreatDoorR08
import Derived.Test.YtegiclpanpmkdaaGreatDoorR17
set_option linter.all false
set_option maxRecDepth 100000
set_option maxHeartbeats 8000000
noncomputable section
section
namespace Go.Sx
structure Jb where
 a:Int
 b:Int
 dep:Int
 val:Int
 AW:Bool
 deriving DecidableEq,Inhabited
def Jb.row(x:Jb):List V:=[.int .i64 x.a,.int .i64 x.b,.int .i64 x.dep,.int .i64 x.val,.bool x.AW]
theorem Jb.aq(a b:Jb)(h:a.row=b.row):a=b:=by cases a;cases b;simp [Jb.row]at h;simp [h]
structure Sr where
 j:Int
 m:Int
 c:Int
 k:Int
 deriving DecidableEq,Inhabited
def Sr.row(x:Sr):List V:=[.int .i64 x.j,.int .i64 x.m,.int .i64 x.c,.int .i64 x.k]
theorem Sr.aq(a b:Sr)(h:a.row=b.row):a=b:=by cases a;cases b;simp [Sr.row]at h;simp [h]
structure Fl where
 met:Met
 mn:Mn
 Ah:List eN
 eH:aZ
 ko:List Wk
 gv:Ro
 wF:List Du
 dU:List Int
 lz:List Int
 turn:Int
 hour:Int
 rU:Int
 gF:Int
 jobs:List Jb
 deriving Inhabited
def Fl.row(f:Fl):List V:=f.met.row++(f.mn.row++(.sl 3 (f.Ah.map eN.row)::(f.eH.row++(.sl 4 (f.ko.map Wk.row)::(f.gv.row++[.sl 3 (f.wF.map Du.row),.sl 1 (f.dU.map ri),.sl 1 (f.lz.map ri),.int .i64 f.turn,.int .i64 f.hour,.int .i64 f.rU,.int .i64 f.gF,.sl 5 (f.jobs.map Jb.row)])))))
theorem xM{a b c d:List V}{n:Nat}(ha:a.length=n)(hb:b.length=n)(h:a++c=b++d):a=b/\c=d:=
 List.append_inj h (by rw [ha,hb])
theorem Fl.aq(f g:Fl)(h:f.row=g.row):f=g:=by obtain⟨a1,a2,a3,a4,a5,a6,a7,a8,a9,a10,a11,a12,a13,a14⟩:=f;obtain⟨b1,b2,b3,b4,b5,b6,b7,b8,b9,b10,b11,b12,b13,b14⟩:=g;unfold Fl.row at h;simp only at h;obtain⟨h1,h⟩:=xM (n:=14) rfl rfl h;obtain⟨h2,h⟩:=xM (n:=5) rfl rfl h;rw [List.cons.injEq]at h;obtain⟨h3,h⟩:=h;obtain⟨h4,h⟩:=xM (n:=4) rfl rfl h;rw [List.cons.injEq]at h;obtain⟨h5,h⟩:=h;obtain⟨h6,h⟩:=xM (n:=6) rfl rfl h;simp only [List.cons.injEq,V.int.injEq,V.sl.injEq,true_and,and_true]at h h3 h5;obtain⟨g1,g2,g3,g4,g5,g6,g7,g8⟩:=h;rw [Met.aq _ _ h1,Wt.aq _ _ h2,lP eN.aq h3,aZ.aq _ _ h4,lP Wk.aq h5,Ro.aq _ _ h6,lP Du.aq g1,ee g2,ee g3,g4,g5,g6,g7,lP Jb.aq g8]
def Jb.bad(n gF:Int)(x:Jb):Bool:=!(bQ x.a 0 (n - 1) && bQ x.b 0 (n - 1) && decide (x.a≠x.b) && bQ x.dep 0 (gF - 1) && bQ x.val 0 1000000)
def bey(most n:Int):Bool:=!bQ n 0 most
def flB(f:Fl):Bool:=
 (decide ((f.dU.length:Int)=f.eH.ax) && decide ((f.lz.length:Int)=f.eH.ax) && !(f.dU.any (bey (f.met.n - 1))) && !(f.lz.any (bey 7))) &&
 (bQ f.turn 0 100 && bQ f.hour 1 100 && bQ f.rU 0 f.eH.ax && bQ f.gF 1 2000 && decide (f.jobs.length<=6)) && !(f.jobs.any (Jb.bad f.met.n f.gF))
def Nr(f:Fl):Int:=
 if uz f.met f.mn≠0 then uz f.met f.mn else if pq f.met f.Ah≠0 then pq f.met f.Ah else if jA f.eH f.ko≠0 then jA f.eH f.ko else if (fL f.gv f.wF).2≠0 then (fL f.gv f.wF).2 else if flB f=true then 0 else 110
structure gu (f:Fl):Prop where
 met:f.met.ok=true
 mn:f.mn.ok=true
 Ah:o9 f.met f.Ah=true
 op:jA f.eH f.ko=0
 du:(fL f.gv f.wF).2=0
 dU:(f.dU.length:Int)=f.eH.ax
 lz:(f.lz.length:Int)=f.eH.ax
 ab0:∀n∈f.dU,0<=n/\n<f.met.n
 ab1:∀n∈f.lz,0<=n/\n<=7
 turn:0<=f.turn/\f.turn<=100
 hour:1<=f.hour/\f.hour<=100
 rU:0<=f.rU/\f.rU<=f.eH.ax
 gF:1<=f.gF/\f.gF<=2000
 jobs:f.jobs.length<=6
 job:∀x∈f.jobs,(0<=x.a/\x.a<f.met.n)/\(0<=x.b/\x.b<f.met.n)/\x.a≠x.b/\(0<=x.dep/\x.dep<f.gF)/\0<=x.val/\x.val<=1000000
theorem uj{m:Met}{l:Mn}:uz m l=0↔m.ok=true/\l.ok=true:=by unfold uz;cases m.ok<;>cases l.ok<;>simp
theorem uR{m:Met}{l:List eN}:pq m l=0↔m.ok=true/\o9 m l=true:=by unfold pq;cases m.ok<;>cases o9 m l<;>simp
theorem tC{f:Fl}:Nr f=0↔gu f:=by
 have hB:flB f=true↔((f.dU.length:Int)=f.eH.ax/\(f.lz.length:Int)=f.eH.ax/\(∀n∈f.dU,0<=n/\n<f.met.n)/\(∀n∈f.lz,0<=n/\n<=7))/\((0<=f.turn/\f.turn<=100)/\(1<=f.hour/\f.hour<=100)/\(0<=f.rU/\f.rU<=f.eH.ax)/\(1<=f.gF/\f.gF<=2000)/\f.jobs.length<=6)/\(∀x∈f.jobs,(0<=x.a/\x.a<f.met.n)/\(0<=x.b/\x.b<f.met.n)/\x.a≠x.b/\(0<=x.dep/\x.dep<f.gF)/\0<=x.val/\x.val<=1000000):=by
  unfold flB;simp only [Bool.and_eq_true,decide_eq_true_eq,Bool.not_eq_true',List.any_eq_false,bey,Jb.bad,bQ];constructor
  ·rintro⟨⟨⟨⟨⟨h1,h2⟩,h3⟩,h4⟩,⟨⟨⟨h5,h6⟩,h7⟩,h8⟩,h9⟩,v1⟩;refine⟨⟨h1,h2,fun n hn=>?_,fun n hn=>?_⟩,⟨h5,h6,h7,h8,h9⟩,fun x hx=>?_⟩
   ·have:=h3 n hn;simp at this;omega
   ·have:=h4 n hn;simp at this;omega
   ·have:=v1 x hx;simp at this;omega
  ·rintro⟨⟨h1,h2,h3,h4⟩,⟨h5,h6,h7,h8,h9⟩,v1⟩;refine⟨⟨⟨⟨⟨h1,h2⟩,fun n hn=>?_⟩,fun n hn=>?_⟩,⟨⟨⟨h5,h6⟩,h7⟩,h8⟩,h9⟩,fun x hx=>?_⟩
   ·have:=h3 n hn;simp;omega
   ·have:=h4 n hn;simp;omega
   ·have:=v1 x hx;simp;omega
 unfold Nr;constructor
 ·intro h;by_cases h1:uz f.met f.mn=0<;>simp only [h1,ne_eq,not_true,not_false_iff,if_true,if_false]at h;by_cases h2:pq f.met f.Ah=0<;>simp only [h2,ne_eq,not_true,not_false_iff,if_true,if_false]at h;by_cases h3:jA f.eH f.ko=0<;>simp only [h3,ne_eq,not_true,not_false_iff,if_true,if_false]at h;by_cases h4:(fL f.gv f.wF).2=0<;>simp only [h4,ne_eq,not_true,not_false_iff,if_true,if_false]at h;cases h5:flB f
  ·rw [h5]at h;simp at h
  ·obtain⟨⟨a1,a2,a3,a4⟩,⟨b1,b2,b3,b4,b5⟩,c⟩:=hB.1 h5;exact⟨(uj.1 h1).1,(uj.1 h1).2,(uR.1 h2).2,h3,h4,a1,a2,a3,a4,b1,b2,b3,b4,b5,c⟩
 ·intro h;rw [if_neg (by simp [uj.2 ⟨h.met,h.mn⟩]),if_neg (by simp [uR.2 ⟨h.met,h.Ah⟩]),if_neg (by simp [h.op]),if_neg (by simp [h.du]),if_pos (hB.2 ⟨⟨h.dU,h.lz,h.ab0,h.ab1⟩,⟨h.turn,h.hour,h.rU,h.gF,h.jobs⟩,h.job⟩)]
structure Bk where
 lv:Int
 ar:Int
 hm:Int
 mD:Int
 deriving DecidableEq,Inhabited
def Bk.row(b:Bk):List V:=[.int .i64 b.lv,.int .i64 b.ar,.int .i64 b.hm,.int .i64 b.mD]
theorem Bk.aq(a b:Bk)(h:a.row=b.row):a=b:=by cases a;cases b;simp [Bk.row]at h;simp [h]
def zX(f:Fl):T2:=rV f.met.n.toNat f.Ah
def fP(f:Fl)(j:Nat):Jb:=f.jobs.getD j default
def sv(f:Fl)(m:Nat):Int:=f.dU.getD m 0
def pX(f:Fl)(j m:Nat):Int:=g2 (zX f) (sv f m).toNat (fP f j).a.toNat
def oA(f:Fl)(j:Nat):Int:=g2 (zX f) (fP f j).a.toNat (fP f j).b.toNat
def pY(f:Fl)(j m:Nat):Int:=g2 (zX f) (fP f j).b.toNat (sv f m).toNat
def zZ(f:Fl)(j m:Nat):Bool:=decide (0<=pX f j m) && decide (0<=oA f j) && decide (0<=pY f j m)
def jJ(f:Fl)(j m:Nat):Bk:=
 ⟨(fP f j).dep - (if sv f m=(fP f j).a then 0 else f.turn+pX f j m),(fP f j).dep+oA f j,(fP f j).dep+oA f j+(if sv f m=(fP f j).b then 0 else f.turn+pY f j m),pX f j m+oA f j+pY f j m⟩
def qP(f:Fl)(m:Nat):Int:=if dR f.eH f.ko m 0=0 then de f.eH f.ko m 0 else -1
def jR(f:Fl)(j m:Nat):Bool:=zZ f j m && decide (0<=(jJ f j m).lv) && decide ((jJ f j m).hm<f.gF) && decide (0<=qP f m)
def wT(f:Fl)(p t:Int):Bool:=EI f.met f.mn p t
def DY(f:Fl)(j m:Nat):Bool:=wT f (sv f m) (jJ f j m).lv && wT f (fP f j).a (fP f j).dep && wT f (fP f j).b (jJ f j m).ar && wT f (sv f m) (jJ f j m).hm
def Xc(f:Fl)(j m:Int):Bool:=bQ j 0 (f.jobs.length - 1) && bQ m 0 (f.dU.length - 1)
def ew(f:Fl)(s:Sr):Bk:=jJ f s.j.toNat s.m.toNat
def Pf(f:Fl)(s x:Sr):Bool:=decide (x.j=s.j) || decide (x.m=s.m/\(ew f s).lv<(ew f x).hm+f.turn) || decide ((ew f s).lv<(ew f x).lv) || decide ((ew f s).lv=(ew f x).lv/\s.j<x.j)
def fA(f:Fl)(m:Int):List Sr->Int
 | []=>0
 | x::l=>(if x.m=m then (ew f x).mD else 0)+fA f m l
def akI(f:Fl)(l:List Sr)(s:Sr)(any:Bool):Bool:=(jR f s.j.toNat s.m.toNat && (any || DY f s.j.toNat s.m.toNat)) && !(l.any (Pf f s)) && decide ((ew f s).mD+fA f s.m l<=qP f s.m.toNat * f.hour)
def GV(f:Fl)(s:Sr):List Du:=[⟨s.c,(ew f s).lv,(ew f s).hm⟩,⟨s.k,(ew f s).lv,(ew f s).hm⟩]
def j9(f:Fl)(l:List Sr):List Du:=f.wF++l.flatMap (GV f)
def Im(f:Fl)(s:Sr):Cl:=⟨(ew f s).lv,(ew f s).hm,f.lz.getD s.m.toNat 0,(fP f s.j.toNat).AW⟩
def NK(f:Fl)(l:List Sr)(s:Sr):Bool:=jx (Im f s) && (tF f.gv (j9 f l) (Im f s)).contains (s.c,s.k)
def GW(f:Fl)(l:List Sr)(m t:Int):Bool:=!(l.any fun x=>decide (x.m=m/\(ew f x).lv<=t/\t<(ew f x).hm))
def GX(f:Fl)(l:List Sr)(t:Int):Nat->Int
 | 0=>0
 | m+1=>GX f l t m+if GW f l m t=true then 1 else 0
def Nt(f:Fl)(l:List Sr)(t:Int):Bool:=decide (f.rU<=GX f l t f.dU.length)
def uZ(f:Fl)(l:List Sr):Bool:=(List.range f.gF.toNat).all fun t=>Nt f l t
def wS(f:Fl)(l:List Sr)(s:Sr)(any:Bool):Bool:=Xc f s.j s.m && akI f l s any && NK f l s && decide ((fL f.gv (j9 f (l++[s]))).2=0) && uZ f (l++[s])
def YV(f:Fl)(l:List Sr)(any:Bool):Int:=eB (List.range l.length) fun i=>!wS f (l.take i) (l.getD i default) any
def V1(f:Fl):List Sr->Int
 | []=>0
 | x::l=>(fP f x.j.toNat).val+V1 f l
def Good(f:Fl)(any:Bool)(l:List Sr):Prop:=∀i,i<l.length->wS f (l.take i) (l.getD i default) any=true
end Go.Sx
end
section
namespace Go.Sx
theorem Vn{α:Type}{P:List α->Prop}(h0:P [])(hs:∀l x,P l->P (l++[x])):∀l,P l:=by
 have:∀(n:Nat) (l:List α),l.length=n->P l:=by
  intro n
  induction n with
  | zero=>intro l hl;rw [List.length_eq_zero_iff.1 hl];exact h0
  | succ n ih=>
   intro l hl;rcases sE l with rfl|⟨p,s,rfl⟩
   ·exact h0
   ·exact hs p s (ih p (by simpa using hl))
 exact fun l=>this _ l rfl
section
variable {f:Fl} {any:Bool} {l:List Sr} {s:Sr}
theorem getD_take{α:Type}[Inhabited α]{l:List α}{n i:Nat}(h:i<n):(l.take n).getD i default=l.getD i default:=by simp [List.getD,List.getElem?_take,h]
theorem Good.take(h:Good f any l)(n:Nat):Good f any (l.take n):=by
 intro i hi;have h1:i<n:=by simp at hi;omega
 have:=h i (by simp at hi;omega);rw [List.take_take,show min i n=i by omega,getD_take h1];exact this
theorem Good.init(h:Good f any (l++[s])):Good f any l:=by
 have:=h.take l.length
 rwa [List.take_left' rfl]at this
theorem Good.last(h:Good f any (l++[s])):wS f l s any=true:=by
 have:=h l.length (by simp);rw [List.take_left' rfl]at this
 rwa [show(l++[s]).getD l.length default=s by simp [List.getD]]at this
theorem Good.snoc(h:Good f any l)(hs:wS f l s any=true):Good f any (l++[s]):=by
 intro i hi;simp at hi;by_cases e:i<l.length
 ·have:=h i e;rw [List.take_append_of_le_length (by omega),show(l++[s]).getD i default=l.getD i default by simp [List.getD,List.getElem?_append_left e]];exact this
 ·have:i=l.length:=by omega
  subst this;rw [List.take_left' rfl,show(l++[s]).getD l.length default=s by simp [List.getD]];exact hs
theorem Good.nil:Good f any []:=fun i hi=>by simp at hi
theorem Vo{P:List Sr->Prop}(h0:P [])(hs:∀l s,Good f any l->wS f l s any=true->P l->P (l++[s])):∀l,Good f any l->P l:=
 Vn (fun _=>h0) fun l x ih h=>hs l x h.init h.last (ih h.init)
structure Nx (f:Fl) (any:Bool) (l:List Sr) (s:Sr):Prop where
 th:Xc f s.j s.m=true
 can:jR f s.j.toNat s.m.toNat=true
 opn:any=true\/DY f s.j.toNat s.m.toNat=true
 cl:∀x∈l,Pf f s x=false
 mD:(ew f s).mD+fA f s.m l<=qP f s.m.toNat * f.hour
 crw:NK f l s=true
 iV:(fL f.gv (j9 f (l++[s]))).2=0
 rU:uZ f (l++[s])=true
theorem vw:wS f l s any=true↔Nx f any l s:=by
 unfold wS akI;simp only [Bool.and_eq_true,Bool.or_eq_true,decide_eq_true_eq,Bool.not_eq_true',List.any_eq_false,Bool.not_eq_true];constructor
 ·rintro⟨⟨⟨⟨h1,⟨⟨h2,h3⟩,h4⟩,h5⟩,h6⟩,h7⟩,h8⟩;exact⟨h1,h2,h3,h4,h5,h6,h7,h8⟩
 ·rintro⟨h1,h2,h3,h4,h5,h6,h7,h8⟩;exact⟨⟨⟨⟨h1,⟨⟨h2,h3⟩,h4⟩,h5⟩,h6⟩,h7⟩,h8⟩
theorem Nx.weak(h:Nx f any l s):Nx f true l s:=⟨h.th,h.can,.inl rfl,h.cl,h.mD,h.crw,h.iV,h.rU⟩
theorem Good.weak(h:Good f any l):Good f true l:=fun i hi=>vw.2 (vw.1 (h i hi)).weak
theorem Good.nx(h:Good f any l){i:Nat}(hi:i<l.length):Nx f any (l.take i) (l.getD i default):=vw.1 (h i hi)
theorem zI:YV f l any = -1↔Good f any l:=by
 constructor
 ·intro h i hi;have hz:=cO (List.range l.length) fun i=>!wS f (l.take i) (l.getD i default) any;have e:eB (List.range l.length) (fun i=>!wS f (l.take i) (l.getD i default) any) = -1:=h;rw [e]at hz;have:=List.any_eq_false.1 (hz.symm.trans (by decide)) i (by simpa using hi);simpa using this
 ·intro h;exact bP _ _ fun j hj=>by simp at hj ⊢;exact h j hj
theorem Yb(f:Fl)(l:List Sr)(s:Sr)(m t:Int):GW f (l++[s]) m t=(GW f l m t && !decide (s.m=m/\(ew f s).lv<=t/\t<(ew f s).hm)):=by simp [GW,List.any_append,Bool.not_or]
theorem asq{l l':List Sr}{t:Int}:∀n:Nat,(∀m:Nat,m<n->GW f l m t=GW f l' m t)->GX f l t n=GX f l' t n
 | 0,_=>rfl
 | n+1,h=>by rw [GX,GX,asq n fun m hm=>h m (by omega),h n (by omega)]
theorem L6(f:Fl)(t:Int):∀n:Nat,GX f [] t n=n
 | 0=>rfl
 | n+1=>by rw [GX,L6 f t n];simp [GW]
theorem asM{t:Int}(h:t<(ew f s).lv\/(ew f s).hm<=t):Nt f (l++[s]) t=Nt f l t:=by unfold Nt;rw [asq (l:=l++[s]) (l':=l) _ fun m _=>by rw [Yb,decide_eq_false (by omega)];simp]
theorem Fk:uZ f l=true↔∀t:Int,0<=t->t<f.gF->Nt f l t=true:=by
 unfold uZ;rw [List.all_eq_true];constructor
 ·intro h t h1 h2;have:=h t.toNat (by simp;omega)
  rwa [Int.toNat_of_nonneg h1]at this
 ·intro h x hx;simp at hx;exact h x (by omega) (by omega)
theorem Vp(hf:gu f):uZ f []=true:=Fk.2 fun t _ _=>by have:=hf.rU;have:=hf.dU;unfold Nt;rw [L6];simp;omega
theorem Good.rU(hf:gu f)(h:Good f any l):uZ f l=true:=by
 rcases sE l with rfl|⟨p,s,rfl⟩
 ·exact Vp hf
 ·exact(vw.1 h.last).rU
theorem as7(h:uZ f l=true):uZ f (l++[s])=true↔∀t:Int,0<=t->(ew f s).lv<=t->t<(ew f s).hm->t<f.gF->Nt f (l++[s]) t=true:=by
 constructor
 ·intro h1 t h2 _ _ h5;exact Fk.1 h1 t h2 h5
 ·intro h1;refine Fk.2 fun t h2 h3=>?_;by_cases e:(ew f s).lv<=t/\t<(ew f s).hm
  ·exact h1 t h2 e.1 e.2 h3
  ·rw [asM (by omega)];exact Fk.1 h t h2 h3
theorem TI(f:Fl)(l:List Sr)(s:Sr):j9 f (l++[s])=j9 f l++GV f s:=by simp [j9,List.flatMap_append]
theorem qB(f:Fl)(l:List Sr):(j9 f l).length=f.wF.length+2 * l.length:=by
 have:∀l:List Sr,(l.flatMap (GV f)).length=2 * l.length:=by
  intro l
  induction l with
  | nil=>rfl
  | cons x l ih=>simp [List.flatMap_cons,GV,ih];omega
 simp [j9,this]
theorem Good.iV(hf:gu f)(h:Good f any l):(fL f.gv (j9 f l)).2=0:=by
 rcases sE l with rfl|⟨p,s,rfl⟩
 ·simpa [j9]using hf.du
 ·exact(vw.1 h.last).iV
theorem qA(f:Fl)(m:Int)(s:Sr):∀l:List Sr,fA f m (l++[s])=fA f m l+if s.m=m then (ew f s).mD else 0
 | []=>by simp [fA]
 | x::l=>by rw [List.cons_append,fA,qA f m s l,fA];omega
theorem asn(f:Fl)(s:Sr):∀l:List Sr,V1 f (l++[s])=V1 f l+(fP f s.j.toNat).val
 | []=>by simp [V1]
 | x::l=>by rw [List.cons_append,V1,asn f s l,V1];omega
theorem Good.mD(h:Good f any l):∀x∈l,0<=qP f x.m.toNat/\fA f x.m l<=qP f x.m.toNat * f.hour:=by
 refine Vo (f:=f) (any:=any) (P:=fun l=>∀x∈l,0<=qP f x.m.toNat/\fA f x.m l<=qP f x.m.toNat * f.hour) (by simp) ?_ l h;intro l s _ hn ih x hx;have hn:=vw.1 hn;have hc:=hn.can;simp only [jR,Bool.and_eq_true,decide_eq_true_eq]at hc;rw [qA];by_cases e:s.m=x.m
 ·rw [if_pos e];have:=hn.mD;rw [e]at this;rw [<-e]at this ⊢;exact⟨hc.2,by omega⟩
 ·rw [if_neg e];rcases List.mem_append.1 hx with hx|hx
  ·have:=ih x hx;omega
  ·have:=List.mem_singleton.1 hx;subst this;exact absurd rfl e
theorem Good.pair(h:Good f any l){i k:Nat}(v0:i<k)(hk:k<l.length):Pf f (l.getD k default) (l.getD i default)=false:=by
 refine(h.nx hk).cl _ ?_;have:(l.take k).getD i default∈l.take k:=by
  have hi:i<(l.take k).length:=by simp;omega
  rw [List.getD_eq_getElem?_getD,List.getElem?_eq_getElem hi];exact List.getElem_mem hi
 rwa [getD_take v0]at this
theorem On{x:Sr}:Pf f s x=false↔x.j≠s.j/\(x.m=s.m->(ew f x).hm+f.turn<=(ew f s).lv)/\(ew f x).lv<=(ew f s).lv/\((ew f s).lv=(ew f x).lv->x.j<=s.j):=by unfold Pf;simp only [Bool.or_eq_false_iff,decide_eq_false_iff_not,not_and,Int.not_lt,Int.not_le,and_assoc]
end
end Go.Sx
end
section
namespace Go.Sx
theorem xL{n:Nat}{t:T2}(h:Sq n t):∀{k:Nat},k<=n->Sq n (vv t k)
 | 0,_=>h
 | k+1,hk=>(xL h (k:=k) (by omega)).s2 (by omega) _ _
theorem yz{n:Nat}{t:T2}(h:Sq n t):∀{k:Nat},k<=n->∀a b,g2 (vv t k) a b=if a=b/\a<k then 0 else g2 t a b
 | 0,_,a,b=>by simp [vv]
 | k+1,hk,a,b=>by
  rw [vv,abE (xL h (by omega)) (by omega) (by omega),yz h (k:=k) (by omega)];by_cases e:a=k/\b=k
  ·rw [if_pos e,if_pos (by omega)]
  ·rw [if_neg e];by_cases e2:a=b/\a<k
   ·rw [if_pos e2,if_pos (by omega)]
   ·rw [if_neg e2,if_neg (by omega)]
theorem yy{n:Nat}{l:List eN}(h:vz n l):Ji n 200 (wJ n l):=by
 have hs:=qv h (Nat.le_refl _);have e:=yz hs (Nat.le_refl n);refine⟨xL hs (Nat.le_refl n),fun a ha=>?_,fun a b ha hb=>?_,fun a b ha hb=>?_⟩
 ·rw [wJ,e,if_pos ⟨rfl,ha⟩]
 ·rw [wJ,e];split
  ·omega
  ·rw [tc h (Nat.le_refl _) a b ha hb];exact(DI h a b (Nat.le_refl _)).1
 ·rw [wJ,e];split
  ·omega
  ·rw [tc h (Nat.le_refl _) a b ha hb];exact(DI h a b (Nat.le_refl _)).2
theorem yA{n:Nat}{l:List eN}(h:vz n l)(hn:n<=8):Ji n 51200 (rV n l):=
 ((yy h).lU (Nat.le_refl n)).le (by have:=L4 hn;omega)
theorem yd{m:Met}(h:m.ok=true):1<=m.n/\m.n<=8:=by simp only [Met.ok,Bool.and_eq_true,bQ,decide_eq_true_eq]at h;exact h.1.1.1.1.1.1
section
variable {f:Fl} (hf:gu f)
include hf
theorem gu.tim:Ji f.met.n.toNat 51200 (zX f):=by have:=yd hf.met;exact yA (uP (by omega) hf.Ah) (by omega)
theorem gu.jb{j:Nat}(hj:j<f.jobs.length):(0<=(fP f j).a/\(fP f j).a<f.met.n)/\(0<=(fP f j).b/\(fP f j).b<f.met.n)/\(fP f j).a≠(fP f j).b/\(0<=(fP f j).dep/\(fP f j).dep<f.gF)/\0<=(fP f j).val/\(fP f j).val<=1000000:=by refine hf.job _ ?_;rw [fP,List.getD_eq_getElem?_getD,List.getElem?_eq_getElem hj];exact List.getElem_mem hj
theorem gu.bs{m:Nat}(hm:m<f.dU.length):0<=sv f m/\sv f m<f.met.n:=by refine hf.ab0 _ ?_;rw [sv,List.getD_eq_getElem?_getD,List.getElem?_eq_getElem hm];exact List.getElem_mem hm
theorem gu.cr{m:Nat}(hm:m<f.dU.length):0<=f.lz.getD m 0/\f.lz.getD m 0<=7:=by
 refine hf.ab1 _ ?_;have h1:=hf.dU;have h2:=hf.lz;have hm:m<f.lz.length:=by omega
 rw [List.getD_eq_getElem?_getD,List.getElem?_eq_getElem hm];exact List.getElem_mem hm
theorem gu.t3{j m:Nat}(hj:j<f.jobs.length)(hm:m<f.dU.length):(-1<=pX f j m/\pX f j m<=51200)/\(-1<=oA f j/\oA f j<=51200)/\-1<=pY f j m/\pY f j m<=51200:=by have h1:=hf.jb hj;have h2:=hf.bs hm;have h:=hf.tim;exact⟨⟨h.lo _ _ (by omega) (by omega),h.hi _ _ (by omega) (by omega)⟩,⟨h.lo _ _ (by omega) (by omega),h.hi _ _ (by omega) (by omega)⟩,h.lo _ _ (by omega) (by omega),h.hi _ _ (by omega) (by omega)⟩
theorem gu.t0{j m:Nat}(hj:j<f.jobs.length)(hm:m<f.dU.length):(sv f m=(fP f j).a->pX f j m=0)/\(sv f m=(fP f j).b->pY f j m=0):=by
 have h1:=hf.jb hj;have h2:=hf.bs hm;have h:=hf.tim;refine⟨fun e=>?_,fun e=>?_⟩
 ·rw [pX,e];exact h.dg _ (by omega)
 ·rw [pY,e];exact h.dg _ (by omega)
theorem gu.bk{j m:Nat}(hj:j<f.jobs.length)(hm:m<f.dU.length)(hq:zZ f j m=true):((jJ f j m).lv<=(fP f j).dep/\-51300<=(jJ f j m).lv)/\((fP f j).dep<=(jJ f j m).ar/\(jJ f j m).ar<=(jJ f j m).hm/\(jJ f j m).hm<=110000)/\0<=(jJ f j m).mD/\(jJ f j m).mD<=153600:=by have h1:=hf.jb hj;have h3:=hf.t3 hj hm;have h4:=hf.turn;have h5:=hf.gF;simp only [zZ,Bool.and_eq_true,decide_eq_true_eq]at hq;simp only [jJ];refine⟨⟨?_,?_⟩,⟨?_,?_,?_⟩,?_,?_⟩<;>(repeat' split)<;>omega
end
theorem PY{f:Fl}{j m:Int}:Xc f j m=true↔(0<=j/\j<f.jobs.length)/\0<=m/\m<f.dU.length:=by simp [Xc,bQ];omega
structure yW (f:Fl) (s:Sr):Prop where
 j:(0<=s.j/\s.j<f.jobs.length)/\s.j.toNat<f.jobs.length
 m:(0<=s.m/\s.m<f.dU.length)/\s.m.toNat<f.dU.length
 q:zZ f s.j.toNat s.m.toNat=true
 lv:0<=(ew f s).lv
 hm:(ew f s).hm<f.gF
 hr:0<=qP f s.m.toNat
theorem Nx.sr{f:Fl}{any:Bool}{l:List Sr}{s:Sr}(h:Nx f any l s):yW f s:=by have h1:=PY.1 h.th;have h2:=h.can;simp only [jR,Bool.and_eq_true,decide_eq_true_eq]at h2;exact⟨⟨h1.1,by omega⟩,⟨h1.2,by omega⟩,h2.1.1.1,h2.1.1.2,h2.1.2,h2.2⟩
theorem Good.sr{f:Fl}{any:Bool}{l:List Sr}(h:Good f any l):∀x∈l,yW f x:=by
 intro x hx;obtain⟨i,hi,rfl⟩:=List.getElem_of_mem hx;have:=(h.nx hi).sr
 rwa [show l.getD i default=l[i] by simp [List.getD,hi]]at this
theorem yf{f:Fl}(m:Nat) : -1<=qP f m/\qP f m<=100:=by
 unfold qP de;split
 ·rename_i h;refine⟨?_,rD _ _ _⟩;unfold dR at h;split at h
  ·split at h
   ·split at h
    ·cases h
    ·omega
   ·cases h
  ·rename_i g;exact absurd h g
 ·omega
end Go.Sx
end
section
namespace Go.Sx
section
variable {f:Fl} {any:Bool} {l:List Sr}
theorem L7{α:Type}[Inhabited α]{l:List α}{i:Nat}(h:i<l.length):l.getD i default=l[i]:=by simp [List.getD,h]
theorem Good.apart(hf:gu f)(h:Good f any l)(p:Int){i k:Nat}(v0:i<k)(hk:k<l.length){x y:Du}(hx:x∈GV f (l.getD i default))(hy:y∈GV f (l.getD k default))(v2:x.p=p)(v3:y.p=p)(t:Int):¬ (x.on t=true/\y.on t=true):=by obtain⟨h1,h2,h3⟩:=dN.1 (h.iV hf);have hd:=Rt.Z8 h1.fN.1 p (Nat.le_refl _) h3;rw [List.take_length]at hd;unfold Gd own at hd;rw [List.pairwise_filter,j9,List.pairwise_append]at hd;have hd:=hd.2.1;rw [List.pairwise_flatMap]at hd;have hd:=List.pairwise_iff_getElem.1 hd.2 i k (by omega) hk v0;rw [L7 (by omega)]at hx;rw [L7 hk]at hy;exact hd x hx y hy (by simpa using v2) (by simpa using v3) t
theorem Good.two(h:Good f any l){i:Nat}(hi:i<l.length):(l.getD i default).c≠(l.getD i default).k:=by have h1:=(h.nx hi).crw;unfold NK at h1;rw [Bool.and_eq_true,List.contains_iff_mem]at h1;unfold tF at h1;obtain⟨a,_,h2⟩:=List.mem_flatMap.1 h1.2;obtain⟨b,hb,h3⟩:=List.mem_map.1 h2;have:=(List.mem_filter.1 hb).2;simp only [C7,Bool.and_eq_true,decide_eq_true_eq]at this;simp only [Prod.mk.injEq]at h3;omega
theorem Nx.call{s:Sr}(h:Nx f any l s):0<=(ew f s).lv/\(ew f s).lv<(ew f s).hm/\(ew f s).hm<=2000:=by have h1:=h.crw;unfold NK jx at h1;rw [Bool.and_eq_true,Bool.and_eq_true,gQ]at h1;exact h1.1.1
theorem Good.same(hf:gu f)(h:Good f any l){i k:Nat}(v0:i<k)(hk:k<l.length)
  (hs:(l.getD k default).m=(l.getD i default).m\/(l.getD k default).c=(l.getD i default).c\/(l.getD k default).c=(l.getD i default).k\/(l.getD k default).k=(l.getD i default).c\/(l.getD k default).k=(l.getD i default).k) :
  ¬ ((ew f (l.getD k default)).lv<(ew f (l.getD i default)).hm/\(ew f (l.getD i default)).lv<(ew f (l.getD k default)).hm):=by
 have cZ:=On.1 (h.pair v0 hk);have ht:=hf.turn;have v4:=(h.nx hk).call;have ha:=fun p x y hx hy v2 v3 t=>h.apart hf p v0 hk (x:=x) (y:=y) hx hy v2 v3 t;generalize l.getD k default=s at *;generalize l.getD i default=x at *;rintro⟨h1,h2⟩;have key:∀p,(⟨p,(ew f x).lv,(ew f x).hm⟩:Du)∈GV f x->(⟨p,(ew f s).lv,(ew f s).hm⟩:Du)∈GV f s->False:=fun p hx hy=>by refine ha p _ _ hx hy rfl rfl (ew f s).lv ?_;have:=cZ.2.2.1;simp only [Du.on,Bool.and_eq_true,decide_eq_true_eq];omega
 rcases hs with hs|hs|hs|hs|hs
 ·have:=cZ.2.1 hs.symm;omega
 ·refine key s.c ?_ ?_<;>simp [GV,hs]
 ·refine key s.c ?_ ?_<;>simp [GV,hs]
 ·refine key s.k ?_ ?_<;>simp [GV,hs]
 ·refine key s.k ?_ ?_<;>simp [GV,hs]
def upH(mD hour:Int):Int:=(mD+hour - 1).tdiv hour
theorem R6{mD hour n:Int}(h1:0<=mD)(h2:1<=hour)(h3:mD<=n * hour):0<=upH mD hour/\upH mD hour<=n:=by
 unfold upH;rw [Int.tdiv_eq_ediv_of_nonneg (by omega)];refine⟨Int.ediv_nonneg (by omega) (by omega),?_⟩;have:=Int.ediv_lt_of_lt_mul (a:=mD+hour - 1) (b:=n+1) (c:=hour) (by omega) (by rw [Int.add_mul,Int.one_mul];omega)
 omega
theorem Fa{m:Nat}(h:0<=qP f m):dR f.eH f.ko m 0=0/\de f.eH f.ko m 0=qP f m:=by
 unfold qP at h ⊢;split
 ·rename_i g;exact⟨g,rfl⟩
 ·rename_i g;rw [if_neg g]at h;omega
theorem uI{r:aZ}{l:List Wk}{m c:Int}(h:dR r l m c=0):jA r l=0/\(sP r l).i.machine m=true/\au c 0 100=true/\0<=(sP r l).i.cE m c/\de r l m c=(sP r l).i.cE m c:=by
 have hF:de r l m c=(sP r l).i.cE m c:=by rw [de,if_pos h]
 unfold dR at h;split at h
 ·split at h
  ·split at h
   ·cases h
   ·rename_i g1 g2 g3;rw [Bool.and_eq_true]at g2;exact⟨g1,g2.1,g2.2,by omega,hF⟩
  ·cases h
 ·rename_i g;exact absurd h g
theorem yW.bk(hf:gu f){s:Sr}(h:yW f s):((ew f s).lv<=(fP f s.j.toNat).dep/\-51300<=(ew f s).lv)/\((fP f s.j.toNat).dep<=(ew f s).ar/\(ew f s).ar<=(ew f s).hm/\(ew f s).hm<=110000)/\0<=(ew f s).mD/\(ew f s).mD<=153600:=hf.bk h.j.2 h.m.2 h.q
theorem xz(hf:gu f)(m:Int):∀{l:List Sr},(∀x∈l,yW f x)->0<=fA f m l/\fA f m l<=153600 * l.length
 | [],_=>by simp [fA]
 | x::l,h=>by have ih:=xz hf m fun y hy=>h y (List.mem_cons_of_mem _ hy);have:=((h x (by simp)).bk hf).2.2;rw [fA,List.length_cons];split<;>omega
end
end Go.Sx
end
end
