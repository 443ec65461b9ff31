/- A part of a proof; no conditions. -/
import Derived.WalkKit
import Derived.Test.YtegiclpanpmkdaaGreatDoorR07
set_option linter.all false
set_option maxRecDepth 100000
set_option maxHeartbeats 8000000
noncomputable section
section
namespace Go.Sx
section
variable {α:Type}
def eB(l:List α)(p:α->Bool):Int:=match l.findIdx? p with|some i=>i|none=>-1
theorem cW(l:List α)(p:α->Bool){k:Nat}(hk:k<l.length)(hp:p l[k]=true)(h:∀j (hj:j<l.length),j<k->p l[j]=false):eB l p=k:=by
 have:l.findIdx? p=some k:=by rw [List.findIdx?_eq_some_iff_getElem];exact⟨hk,hp,fun j hj=>by simp [h j (by omega) hj]⟩
 simp [eB,this]
theorem bP(l:List α)(p:α->Bool)(h:∀j (hj:j<l.length),p l[j]=false):eB l p = -1:=by
 have:l.findIdx? p=none:=by rw [List.findIdx?_eq_none_iff];intro x hx;obtain⟨j,hj,rfl⟩:=List.getElem_of_mem hx;exact h j hj
 simp [eB,this]
theorem ve{l:List α}{p:α->Bool}(h:eB l p≠-1):∃(k:Nat) (hk:k<l.length),eB l p=k/\p l[k]=true/\∀j (hj:j<l.length),j<k->p l[j]=false:=by
 unfold eB at h ⊢;cases hf:l.findIdx? p with
 | none=>rw [hf]at h;exact absurd rfl h
 | some i=>
  rw [List.findIdx?_eq_some_iff_getElem]at hf;obtain⟨h1,h2,h3⟩:=hf;exact⟨i,h1,rfl,h2,fun j hj v7=>by simpa using h3 j v7⟩
theorem p6{l:List α}{k:Nat}{x:α}(h:l[k]?=some x)(hk:k<l.length):l[k]=x:=by rw [List.getElem?_eq_getElem hk]at h;exact Option.some.inj h
theorem cO(l:List α)(p:α->Bool):decide (0<=eB l p)=l.any p:=by
 unfold eB;cases h:l.findIdx? p with
 | none=>rw [List.findIdx?_eq_none_iff]at h;simp;exact fun x hx=>by simpa using h x hx
 | some i=>
  have:l.any p=true:=by rw [List.findIdx?_eq_some_iff_getElem]at h;obtain⟨h1,h2,_⟩:=h;exact List.any_eq_true.2 ⟨_,List.getElem_mem h1,h2⟩
  simp [this]
end
end Go.Sx
end
section
namespace Go.Sx
structure Sp where
 lo:Int
 hi:Int
 deriving DecidableEq,Inhabited
def Sp.row(s:Sp):List V:=[.int .i64 s.lo,.int .i64 s.hi]
theorem Sp.aq(a b:Sp)(h:a.row=b.row):a=b:=by cases a;cases b;simp [Sp.row]at h;simp [h]
def Sp.has(s:Sp)(h:Int):Bool:=decide (s.lo<=h) && decide (h<=s.hi)
theorem sE{α:Type}(l:List α):l=[]\/∃p s,l=p++[s]:=by
 cases h:l.reverse with
 | nil=>left;simpa using h
 | cons a r=>right;exact⟨r.reverse,a,by have:=congrArg List.reverse h;simpa using this⟩
end Go.Sx
end
section
namespace Go.Sx
open Classical in
noncomputable def aY{D:Type}[Inhabited D](enc:D->List V)(l:List V):D:=if x:∃d,l=enc d then x.choose else default
theorem aA{D:Type}[Inhabited D]{enc:D->List V}(inj:∀a b,enc a=enc b->a=b)(d:D):aY enc (enc d)=d:=by
 have x:∃d',enc d=enc d':=⟨d,rfl⟩
 simp only [aY,dif_pos x];exact(inj _ _ x.choose_spec).symm
noncomputable abbrev bS{D:Type}[Inhabited D](enc:D->List V)(pre:D->Prop)(res:D->V):aB:={dom:=D,enc:=enc,dec:=aY enc,pre:=pre,res:=res}
noncomputable def Wu{D:Type}(enc:D->List V)(HP:D->Hp->Prop)(pre:D->Prop)(res:D->V)(post:D->Hp->Hp):bB:=
 {go:=fun args h=>open Classical in if hx:∃d,args=enc d/\HP d h then ⟨pre hx.choose,res hx.choose,post hx.choose h⟩else bad h}
theorem ze{D:Type}{enc:D->List V}{HP:D->Hp->Prop}{pre:D->Prop}{res:D->V}{post:D->Hp->Hp}(inj:∀d d' h,enc d=enc d'->HP d h->HP d' h->d=d'){d:D}{h:Hp}(hd:HP d h) :
  (Wu enc HP pre res post).go (enc d) h=⟨pre d,res d,post d h⟩:=by
 have hx:∃d',enc d=enc d'/\HP d' h:=⟨d,rfl,hd⟩
 have e:hx.choose=d:=(inj _ _ _ hx.choose_spec.1 hd hx.choose_spec.2).symm;simp only [Wu];rw [dif_pos hx,e]
theorem jM{D:Type}{enc:D->List V}{HP:D->Hp->Prop}{pre:D->Prop}{res:D->V}{post:D->Hp->Hp}{args:List V}{h:Hp}(hc:((Wu enc HP pre res post).go args h).c) :
  ∃d,args=enc d/\HP d h/\pre d/\(Wu enc HP pre res post).go args h=⟨pre d,res d,post d h⟩:=by
 simp only [Wu]at hc ⊢;by_cases hx:∃d,args=enc d/\HP d h
 ·rw [dif_pos hx]at hc;exact⟨hx.choose,hx.choose_spec.1,hx.choose_spec.2,hc,by rw [dif_pos hx]⟩
 ·rw [dif_neg hx]at hc;exact hc.elim
end Go.Sx
end
section
namespace Go.Sx
def cnt(P:Int->Bool)(x:Int):Nat->Int
 | 0=>0
 | n+1=>cnt P x n+if P (x+n)=true then 1 else 0
theorem BS(P:Int->Bool)(x:Int)(m:Nat):∀n:Nat,cnt P x (m+n)=cnt P x m+cnt P (x+m) n
 | 0=>by simp [cnt]
 | n+1=>by have ih:=BS P x m n;rw [show m+(n+1)=(m+n)+1 from rfl,cnt,cnt,ih,show x+((m+n:Nat):Int)=x+m+n by omega];omega
theorem BT{P Q:Int->Bool}{x:Int}:∀n:Nat,(∀t,x<=t->t<x+n->P t=Q t)->cnt P x n=cnt Q x n
 | 0,_=>rfl
 | n+1,h=>by
  rw [cnt,cnt,BT n fun t h1 h2=>h t h1 (by omega),h (x+n) (by omega) (by omega)]
theorem LU{P Q R:Int->Bool}{x:Int}:∀n:Nat,(∀t,x<=t->t<x+n->(if P t=true then (1:Int)else 0)=(if Q t=true then 1 else 0)+(if R t=true then 1 else 0))->cnt P x n=cnt Q x n+cnt R x n
 | 0,_=>rfl
 | n+1,h=>by have h1:=LU n fun t h1 h2=>h t h1 (by omega);have h2:=h (x+n) (by omega) (by omega);rw [cnt,cnt,cnt,h1,h2];omega
theorem Ja(P:Int->Bool)(x:Int):∀n:Nat,0<=cnt P x n/\cnt P x n<=n
 | 0=>by simp [cnt]
 | n+1=>by have:=Ja P x n;rw [cnt];split<;>omega
theorem LV{P:Int->Bool}{x:Int}:∀n:Nat,(∀t,x<=t->t<x+n->P t=true)->cnt P x n=n
 | 0,_=>rfl
 | n+1,h=>by rw [cnt,LV n fun t h1 h2=>h t h1 (by omega),if_pos (h (x+n) (by omega) (by omega))];omega
theorem Ga{P:Int->Bool}{x:Int}:∀n:Nat,(∀t,x<=t->t<x+n->P t=false)->cnt P x n=0
 | 0,_=>rfl
 | n+1,h=>by rw [cnt,Ga n fun t h1 h2=>h t h1 (by omega),h (x+n) (by omega) (by omega)];rfl
def cn(P:Int->Bool)(x y:Int):Int:=cnt P x (y - x).toNat
theorem gU{P:Int->Bool}{x y z:Int}(h1:x<=y)(h2:y<=z):cn P x z=cn P x y+cn P y z:=by unfold cn;rw [show(z - x).toNat=(y - x).toNat+(z - y).toNat by omega,BS,show x+((y - x).toNat:Int)=y by omega]
theorem p9{P Q:Int->Bool}{x y:Int}(h:∀t,x<=t->t<y->P t=Q t):cn P x y=cn Q x y:=BT _ fun t h1 h2=>h t h1 (by omega)
theorem UT{P Q R:Int->Bool}{x y:Int}(h:∀t,x<=t->t<y->(if P t=true then (1:Int)else 0)=(if Q t=true then 1 else 0)+(if R t=true then 1 else 0)):cn P x y=cn Q x y+cn R x y:=LU _ fun t h1 h2=>h t h1 (by omega)
theorem vi(P:Int->Bool)(x y:Int):0<=cn P x y:=(Ja P x _).1
theorem UU{P:Int->Bool}{x y:Int}(v2:x<=y)(h:∀t,x<=t->t<y->P t=true):cn P x y=y - x:=by unfold cn;rw [LV _ fun t h1 h2=>h t h1 (by omega)];omega
theorem jq{P:Int->Bool}{x y:Int}(h:∀t,x<=t->t<y->P t=false):cn P x y=0:=Ga _ fun t h1 h2=>h t h1 (by omega)
theorem qa{P:Int->Bool}{x y:Int}(h:y<=x):cn P x y=0:=jq fun t h1 h2=>by omega
theorem UW(P:Int->Bool)(x:Int):cn P x (x+1)=if P x=true then 1 else 0:=by unfold cn;rw [show(x+1 - x).toNat=1 by omega];simp [cnt]
theorem akw{P:Int->Bool}{x y:Int}(h:x<=y):cn P x y<=y - x:=by have:=(Ja P x (y - x).toNat).2;unfold cn;omega
structure Du where
 p:Int
 a:Int
 b:Int
 deriving DecidableEq,Inhabited
def Du.on(d:Du)(t:Int):Bool:=decide (d.a<=t) && decide (t<d.b)
def kf(l:List Du)(t:Int):Bool:=l.any fun d=>d.on t
theorem qb(d:Du)(l:List Du)(t:Int):kf (d::l) t=(d.on t || kf l t):=rfl
theorem nV{l:List Du}{t:Int}:kf l t=true↔∃d∈l,d.a<=t/\t<d.b:=by simp [kf,Du.on,List.any_eq_true]
theorem UX{l l':List Du}(h:l.Perm l')(t:Int):kf l t=kf l' t:=by unfold kf;exact h.any_eq
def swp(to:Int):List Du->Int->Int->Int
 | [],_,n=>n
 | d::r,done,n=>if max d.a done<min d.b to then swp to r (min d.b to) (n+(min d.b to - max d.a done))else swp to r done n
theorem Jc(to:Int):∀(l:List Du) (done n:Int),done<=to->l.Pairwise (fun x y=>x.a<=y.a)->swp to l done n=n+cn (kf l) done to
 | [],done,n,_,_=>by rw [swp,jq (P:=kf []) fun t _ _=>rfl];omega
 | d::r,done,n,h,hp=>by
  rw [swp];have hr:=List.pairwise_cons.1 hp;split
  ·rename_i h1;rw [Jc to r _ _ (by omega) hr.2];have e1:cn (kf (d::r)) done to=cn (kf (d::r)) done (max d.a done)+(cn (kf (d::r)) (max d.a done) (min d.b to)+cn (kf (d::r)) (min d.b to) to):=by rw [<-gU (by omega) (by omega),<-gU (by omega) (by omega)]
   have e2:cn (kf (d::r)) done (max d.a done)=0:=jq fun t t1 t2=>by
    cases ht:kf (d::r) t
    ·rfl
    ·obtain⟨x,hx,v9,va⟩:=nV.1 ht;rcases List.mem_cons.1 hx with rfl|hx
     ·omega
     ·have:=hr.1 x hx;omega
   have e3:cn (kf (d::r)) (max d.a done) (min d.b to)=min d.b to - max d.a done:=UU (by omega) fun t t1 t2=>nV.2 ⟨d,List.mem_cons_self,by omega,by omega⟩;have e4:cn (kf (d::r)) (min d.b to) to=cn (kf r) (min d.b to) to:=p9 fun t t1 t2=>by rw [qb];have:d.on t=false:=(by simp [Du.on];omega);rw [this];rfl
   omega
  ·rename_i h1;rw [Jc to r _ _ h hr.2];rw [p9 (P:=kf (d::r)) (Q:=kf r) fun t t1 t2=>by rw [qb];have:d.on t=false:=(by simp [Du.on];omega);rw [this];rfl]
def wk(l:List Du)(x y:Int):Int:=cn (kf l) x y
theorem LW{l l':List Du}(h:l.Perm l')(x y:Int):wk l x y=wk l' x y:=p9 fun t _ _=>UX h t
theorem Of{l l':List Du}(h:l'.Perm l)(hs:l'.Pairwise (fun x y=>x.a<=y.a)){x y:Int}(v2:x<=y):swp y l' x 0=wk l x y:=by rw [Jc y l' x 0 v2 hs,Int.zero_add];exact LW h x y
theorem Z4{l:List Du}{x W:Int}(hW:0<=W)(h:kf l (x - 1)=true):wk l x (x+W)<=wk l (x - 1) (x - 1+W):=by
 unfold wk;by_cases h0:W=0
 ·subst h0;rw [qa (by omega),qa (by omega)];omega
 have e1:cn (kf l) (x - 1) (x+W)=cn (kf l) (x - 1) x+cn (kf l) x (x+W):=gU (by omega) (by omega);have e2:cn (kf l) (x - 1) (x+W)=cn (kf l) (x - 1) (x - 1+W)+cn (kf l) (x - 1+W) (x+W):=gU (by omega) (by omega);have e3:cn (kf l) (x - 1) x=1:=by have:=UW (kf l) (x - 1);rw [Int.sub_add_cancel]at this;rw [this,if_pos h]
 have e4:cn (kf l) (x - 1+W) (x+W)<=1:=by have:=akw (P:=kf l) (x:=x - 1+W) (y:=x+W) (by omega);omega
 omega
theorem UY{l:List Du}{x W:Int}(hW:0<=W)(h:kf l x=false):wk l x (x+W)<=wk l (x+1) (x+1+W):=by
 unfold wk;by_cases h0:W=0
 ·subst h0;rw [qa (by omega),qa (by omega)];omega
 have e1:cn (kf l) x (x+1+W)=cn (kf l) x (x+1)+cn (kf l) (x+1) (x+1+W):=gU (by omega) (by omega);have e2:cn (kf l) x (x+1+W)=cn (kf l) x (x+W)+cn (kf l) (x+W) (x+1+W):=gU (by omega) (by omega);have e3:cn (kf l) x (x+1)=0:=by rw [UW,h];rfl
 have e4:=vi (kf l) (x+W) (x+1+W);omega
theorem zB{l:List Du}{W:Int}(hW:0<=W):∀(n:Nat) (x lo:Int),(∀d∈l,lo<=d.a)->x<=lo+n->kf l x=true->∃d∈l,wk l x (x+W)<=wk l d.a (d.a+W)
 | 0,x,lo,hlo,hx,h=>by obtain⟨d,hd,h1,h2⟩:=nV.1 h;have:=hlo d hd;exact⟨d,hd,by rw [show x=d.a by omega];exact Int.le_refl _⟩
 | n+1,x,lo,hlo,hx,h=>by
  by_cases h1:kf l (x - 1)=true
  ·obtain⟨d,hd,h2⟩:=zB hW n (x - 1) lo hlo (by omega) h1;exact⟨d,hd,Int.le_trans (Z4 hW h1) h2⟩
  ·obtain⟨d,hd,h2,h3⟩:=nV.1 h;have:d.a=x:=by
    by_cases h4:d.a=x
    ·exact h4
    ·exact absurd (nV.2 ⟨d,hd,by omega,by omega⟩) h1
   exact⟨d,hd,by rw [this];exact Int.le_refl _⟩
theorem wg{l:List Du}{W:Int}(hW:0<=W)(v0:l≠[]):∀(n:Nat) (x hi:Int),(∀d∈l,d.b<=hi)->hi<=x+n->wk l x (x+W)=0\/∃y,kf l y=true/\wk l x (x+W)<=wk l y (y+W)
 | 0,x,hi,v3,hx=>.inl (jq fun t t1 t2=>by
   cases ht:kf l t
   ·rfl
   ·obtain⟨d,hd,h1,h2⟩:=nV.1 ht;have:=v3 d hd;omega)
 | n+1,x,hi,v3,hx=>by
  by_cases h:kf l x=true
  ·exact .inr ⟨x,h,Int.le_refl _⟩
  ·have h1:=UY hW (Bool.eq_false_iff.2 h);rcases wg hW v0 n (x+1) hi v3 (by omega)with h2|⟨y,hy,h2⟩
   ·left;have:=vi (kf l) x (x+W);unfold wk at h1 h2 ⊢;omega
   ·exact .inr ⟨y,hy,Int.le_trans h1 h2⟩
theorem Gb:∀l:List Du,∃lo:Int,∀d∈l,lo<=d.a
 | []=>⟨0,fun _ h=>by cases h⟩
 | d::l=>by
  obtain⟨lo,h⟩:=Gb l;refine⟨min lo d.a,fun x hx=>?_⟩;rcases List.mem_cons.1 hx with rfl|hx
  ·omega
  ·have:=h x hx;omega
theorem Gc:∀l:List Du,∃hi:Int,∀d∈l,d.b<=hi
 | []=>⟨0,fun _ h=>by cases h⟩
 | d::l=>by
  obtain⟨lo,h⟩:=Gc l;refine⟨max lo d.b,fun x hx=>?_⟩;rcases List.mem_cons.1 hx with rfl|hx
  ·omega
  ·have:=h x hx;omega
theorem Df{l:List Du}{W T:Int}(hW:0<=W)(hT:0<=T)(h:∀d∈l,wk l d.a (d.a+W)<=T)(x:Int):wk l x (x+W)<=T:=by
 by_cases v0:l=[]
 ·subst v0;have:wk [] x (x+W)=0:=jq fun t _ _=>rfl;omega
 obtain⟨lo,hlo⟩:=Gb l;obtain⟨hi,v3⟩:=Gc l;rcases wg hW v0 (hi - x).toNat x hi v3 (by omega)with h1|⟨y,hy,h1⟩
 ·omega
 ·obtain⟨d,hd,h2⟩:=zB hW (y - lo).toNat y lo hlo (by omega) hy;have:=h d hd;omega
def Jd(l:List Du)(W T:Int):Bool:=l.all fun d=>decide (wk l d.a (d.a+W)<=T) && decide (wk l (d.b - W) d.b<=T)
theorem FF{l:List Du}{W T:Int}(hW:0<=W)(hT:0<=T):Jd l W T=true↔∀x,wk l x (x+W)<=T:=by
 constructor
 ·intro h x;refine Df hW hT (fun d hd=>?_) x;have:=List.all_eq_true.1 h d hd;simp at this;exact this.1
 ·intro h;refine List.all_eq_true.2 fun d hd=>?_;have h1:=h d.a;have h2:=h (d.b - W);rw [Int.sub_add_cancel]at h2;simp;exact⟨h1,h2⟩
def gA(d:Du)(x y:Int):Int:=max 0 (min y d.b - max x d.a)
theorem DG(d:Du)(x y:Int):gA d x y=cn d.on x y:=by
 unfold gA;by_cases h:max x d.a<min y d.b
 ·rw [gU (y:=max x d.a) (by omega) (by omega),gU (x:=max x d.a) (y:=min y d.b) (by omega) (by omega)];rw [jq (x:=x) (y:=max x d.a) fun t t1 t2=>by simp [Du.on];omega,UU (x:=max x d.a) (y:=min y d.b) (by omega) fun t t1 t2=>by simp [Du.on];omega,jq (x:=min y d.b) (y:=y) fun t t1 t2=>by simp [Du.on];omega];omega
 ·rw [jq (x:=x) (y:=y) fun t t1 t2=>by simp [Du.on];omega];omega
def Gd(l:List Du):Prop:=l.Pairwise fun x y=>∀t,¬ (x.on t=true/\y.on t=true)
def Je(d:Du)(x y:Int):List Du->Int
 | []=>gA d x y
 | z::l=>Je d x y l+(gA z x y - gA z (max x d.a) (min y d.b))
theorem Og(z d:Du)(x y:Int):gA z (max x d.a) (min y d.b)=cn (fun t=>z.on t && d.on t) x y:=by
 rw [DG];by_cases h:max x d.a<=min y d.b
 ·rw [gU (P:=fun t=>z.on t && d.on t) (y:=max x d.a) (by omega) (by omega),gU (P:=fun t=>z.on t && d.on t) (x:=max x d.a) (y:=min y d.b) (by omega) (by omega)];rw [jq (P:=fun t=>z.on t && d.on t) (x:=x) (y:=max x d.a) fun t t1 t2=>by simp [Du.on];omega,jq (P:=fun t=>z.on t && d.on t) (x:=min y d.b) (y:=y) fun t t1 t2=>by simp [Du.on];omega];rw [p9 (P:=fun t=>z.on t && d.on t) (Q:=z.on) fun t t1 t2=>by have:d.on t=true:=(by simp [Du.on];omega);simp [this]]
  omega
 ·rw [qa (by omega)];exact(jq fun t t1 t2=>by simp [Du.on];omega).symm
theorem LX(d:Du)(x y:Int):∀l:List Du,Gd l->Je d x y l=wk (d::l) x y
 | [],_=>by rw [Je,DG];exact p9 fun t _ _=>by simp [kf]
 | z::l,h=>by
  have hz:=List.pairwise_cons.1 h;rw [Je,LX d x y l hz.2,DG,Og];have e1:cn z.on x y=cn (fun t=>z.on t && d.on t) x y+cn (fun t=>z.on t && !d.on t) x y:=UT fun t _ _=>by cases z.on t<;>cases d.on t<;>simp
  have e2:wk (d::z::l) x y=wk (d::l) x y+cn (fun t=>z.on t && !d.on t) x y:=UT fun t _ _=>by
   rw [qb,qb,qb];cases v8:z.on t
   ·cases d.on t<;>simp
   ·have:kf l t=false:=by
     cases ho:kf l t
     ·rfl
     ·obtain⟨w,hw,h1,h2⟩:=nV.1 ho;exact absurd ⟨v8,by simp [Du.on,h1,h2]⟩ (hz.1 w hw t)
    cases d.on t<;>simp [this]
  omega
structure Pn where
 rat:Int
 qV:Int
 mW:Int
 deriving DecidableEq,Inhabited
def Pn.row(p:Pn):List V:=[.int .i64 p.rat,.int .i64 p.qV,.int .i64 p.mW]
theorem Pn.aq(a b:Pn)(h:a.row=b.row):a=b:=by cases a;cases b;simp [Pn.row]at h;simp [h]
def Du.row(p:Du):List V:=[.int .i64 p.p,.int .i64 p.a,.int .i64 p.b]
theorem Du.aq(a b:Du)(h:a.row=b.row):a=b:=by cases a;cases b;simp [Du.row]at h;simp [h]
structure Ro where
 bM:List Pn
 lY:Int
 fN:Int
 win:Int
 tot:Int
 iW:Int
 deriving DecidableEq,Inhabited
def bp(l:List Pn):V:=.sl 3 (l.map Pn.row)
def Ro.row(r:Ro):List V:=[bp r.bM,.int .i64 r.lY,.int .i64 r.fN,.int .i64 r.win,.int .i64 r.tot,.int .i64 r.iW]
theorem aR{α:Type}{f:α->List V}(hf:∀a b,f a=f b->a=b):∀{a b:List α},a.map f=b.map f->a=b
 | [],[],_=>rfl
 | [],_::_,h=>by simp at h
 | _::_,[],h=>by simp at h
 | x::a,y::b,h=>by
  simp only [List.map_cons,List.cons.injEq]at h
  rw [hf _ _ h.1,aR hf h.2]
theorem Ro.aq(a b:Ro)(h:a.row=b.row):a=b:=by cases a;cases b;simp only [Ro.row,bp,List.cons.injEq,V.sl.injEq,V.int.injEq,true_and,and_true]at h;obtain⟨h1,h2,h3,h4,h5,h6⟩:=h;rw [aR Pn.aq h1,h2,h3,h4,h5,h6]
structure Cl where
 a:Int
 b:Int
 gP:Int
 vX:Bool
 deriving DecidableEq,Inhabited
def Cl.row(c:Cl):List V:=[.int .i64 c.a,.int .i64 c.b,.int .i64 c.gP,.bool c.vX]
theorem Cl.aq(a b:Cl)(h:a.row=b.row):a=b:=by cases a;cases b;simp [Cl.row]at h;simp [h]
def Pn.ok(p:Pn):Bool:=decide (0<=p.rat/\p.rat<=255) && decide (0<=p.qV/\p.qV<=3) && decide (0<=p.mW/\p.mW<=2000)
def Ro.ok(r:Ro):Bool:=decide (r.bM.length<=12) && r.bM.all Pn.ok && decide (1<=r.lY/\r.lY<=2000) && decide (0<=r.fN/\r.fN<=2000) && decide (1<=r.win/\r.win<=2000) && decide (1<=r.iW/\r.iW<=2000) && decide (1<=r.tot/\r.tot<=r.win)
structure Ro.Fit (r:Ro):Prop where
 n:r.bM.length<=12
 p:∀p∈r.bM,p.ok=true
 lY:1<=r.lY/\r.lY<=2000
 fN:0<=r.fN/\r.fN<=2000
 win:1<=r.win/\r.win<=2000
 iW:1<=r.iW/\r.iW<=2000
 tot:1<=r.tot/\r.tot<=r.win
theorem Ro.si{r:Ro}:r.ok=true↔r.Fit:=by
 constructor
 ·intro h;simp [Ro.ok]at h;obtain⟨⟨⟨⟨⟨⟨h1,h2⟩,h3⟩,h4⟩,h5⟩,h6⟩,h7⟩:=h;exact⟨h1,h2,h3,h4,h5,h6,h7⟩
 ·rintro⟨h1,h2,h3,h4,h5,h6,h7⟩;simp [Ro.ok];exact⟨⟨⟨⟨⟨⟨h1,h2⟩,h3⟩,h4⟩,h5⟩,h6⟩,h7⟩
def r9(a b:Int):Bool:=decide (0<=a/\a<=b - 1) && decide (b<=2000)
theorem gQ{a b:Int}:r9 a b=true↔0<=a/\a<b/\b<=2000:=by simp [r9];omega
def Bi(l:List Du):Prop:=∀d∈l,0<=d.a/\d.a<d.b/\d.b<=2000
def own(l:List Du)(n:Int):List Du:=l.filter fun d=>decide (d.p=n)
theorem qC{l:List Du}(h:Bi l)(n:Int):Bi (own l n):=fun d hd=>h d (List.mem_filter.1 hd).1
theorem xC(l:List Du)(n:Int):(own l n).length<=l.length:=List.length_filter_le ..
def oq(r:Ro)(x y:Du):Bool:=if y.a<x.a then decide (y.b+r.fN<=x.a)else decide (x.b+r.fN<=y.a)
def Jf(r:Ro)(o:List Du)(x:Du):Bool:=decide (x.a<=r.iW) || o.any fun d=>decide (0<=x.a - d.b/\x.a - d.b<=r.iW)
def brk(r:Ro)(o:List Du)(x:Du):List Int:=
 (if (o.all fun d=>oq r d x)=true then []else [3])++(if r.lY<x.b - x.a then [4]else [])++(if Jd (o++[x]) r.win r.tot=true then []else [5])++(if Jf r o x=true then []else [6])
theorem awe{r:Ro}{o:List Du}{x:Du}:brk r o x=[]↔(∀d∈o,oq r d x=true)/\x.b - x.a<=r.lY/\Jd (o++[x]) r.win r.tot=true/\Jf r o x=true:=by
 unfold brk;by_cases h1:(o.all fun d=>oq r d x)=true
 ·have pI:=List.all_eq_true.1 h1;by_cases h2:r.lY<x.b - x.a
  ·simp [h2];intro _ h;omega
  ·by_cases h3:Jd (o++[x]) r.win r.tot=true
   ·by_cases h4:Jf r o x=true
    ·simp [h1,h2,h3,h4];exact⟨pI,by omega⟩
    ·simp [h1,h2,h3,h4]
   ·simp [h1,h2,h3]
 ·have:¬ ∀d∈o,oq r d x=true:=fun h=>h1 (List.all_eq_true.2 h);simp [h1,this]
def ru(r:Ro)(l:List Du)(d:Du):Bool:=l.all fun x=>!(decide (x.p=d.p) && decide (d.a<x.b+r.fN) && decide (x.a<d.b+r.fN))
def D3(d:Du)(x y:Int):List Du->Int->Int
 | [],n=>n
 | z::l,n=>D3 d x y l (if z.p=d.p then n+(gA z x y - gA z (max x d.a) (min y d.b))else n)
def Ao(r:Ro)(l:List Du)(d:Du):Bool:=(l++[d]).all fun z=>!decide (z.p=d.p) || (decide (D3 d z.a (z.a+r.win) l (gA d z.a (z.a+r.win))<=r.tot) && decide (D3 d (max 0 (z.b - r.win)) (max 0 (z.b - r.win)+r.win) l (gA d (max 0 (z.b - r.win)) (max 0 (z.b - r.win)+r.win))<=r.tot))
def CK(r:Ro)(l:List Du)(d:Du):Bool:=decide (d.a<=r.iW) || l.any fun x=>decide (x.p=d.p) && decide (x.b<=d.a) && decide (d.a - r.iW<=x.b)
def HE(r:Ro)(l:List Du)(d:Du):List Int:=
 (if ru r l d=true then []else [3])++(if r.lY<d.b - d.a then [4]else [])++(if Ao r l d=true then []else [5])++(if CK r l d=true then []else [6])
theorem LY(d:Du)(x y:Int):∀(l:List Du) (n:Int),D3 d x y l n=n+(Je d x y (own l d.p) - gA d x y)
 | [],n=>by simp [D3,own,Je]
 | z::l,n=>by
  rw [D3,LY d x y l]
  by_cases h:z.p=d.p
  ·rw [if_pos h,show own (z::l) d.p=z::own l d.p by simp [own,h],Je];omega
  ·rw [if_neg h,show own (z::l) d.p=own l d.p by simp [own,h]]
theorem ae7{d:Du}{x y:Int}{l:List Du}(h:Gd (own l d.p)):D3 d x y l (gA d x y)=wk (own l d.p++[d]) x y:=by rw [LY,LX d x y _ h];have:wk (d::own l d.p) x y=wk (own l d.p++[d]) x y:=LW (by simpa using (List.perm_append_comm (l₁:=[d]) (l₂:=own l d.p))) x y;omega
theorem UZ(l:List Du)(d:Du):own (l++[d]) d.p=own l d.p++[d]:=by simp [own,List.filter_append]
theorem Z5(l:List Du)(n:Int)(p:Du->Bool):(l.all fun z=>!decide (z.p=n) || p z)=(own l n).all p:=by
 induction l with
 | nil=>rfl
 | cons z l ih=>
  by_cases h:z.p=n
  ·rw [show own (z::l) n=z::own l n by simp [own,h]];simp [h,ih]
  ·rw [show own (z::l) n=own l n by simp [own,h]];simp [h,ih]
theorem Z6{r:Ro}(hr:r.Fit){l:List Du}{d:Du}(h:Gd (own l d.p))(hv:Bi (own l d.p))(hd:0<=d.a/\d.a<d.b/\d.b<=2000):Ao r l d=Jd (own l d.p++[d]) r.win r.tot:=by
 unfold Ao;rw [Z5,UZ];simp only [ae7 h];rw [Bool.eq_iff_iff];rw [FF (by have:=hr.win;omega) (by have:=hr.tot;omega)];constructor
 ·intro h1 x;refine Df (by have:=hr.win;omega) (by have:=hr.tot;omega) (fun z hz=>?_) x;have:=List.all_eq_true.1 h1 z hz;simp at this;exact this.1
 ·intro h1;refine List.all_eq_true.2 fun z hz=>?_;simp;exact⟨h1 _,h1 _⟩
theorem nP{l:List Du}{n:Int}{x:Du}:x∈own l n↔x∈l/\x.p=n:=by simp [own]
theorem U3{r:Ro}(hr:r.Fit){l:List Du}{d:Du}(hv:Bi (own l d.p))(hd:0<=d.a/\d.a<d.b/\d.b<=2000):ru r l d=(own l d.p).all fun x=>oq r x d:=by
 have D6:=hr.fN;unfold ru;rw [Bool.eq_iff_iff,List.all_eq_true,List.all_eq_true];constructor
 ·intro h x hx;have h1:=h x (nP.1 hx).1;have h2:=(nP.1 hx).2;have h3:=hv x hx;simp [h2]at h1;unfold oq;split
  ·simp;omega
  ·simp;omega
 ·intro h x hx;by_cases h2:x.p=d.p
  ·have hx':=nP.2 ⟨hx,h2⟩;have h1:=h x hx';have h3:=hv x hx';unfold oq at h1;simp [h2];split at h1
   ·simp at h1;omega
   ·simp at h1;omega
  ·simp [h2]
theorem Z7{r:Ro}{l:List Du}{d:Du}:CK r l d=Jf r (own l d.p) d:=by
 unfold CK Jf;congr 1;rw [Bool.eq_iff_iff,List.any_eq_true,List.any_eq_true];constructor
 ·rintro⟨x,hx,h⟩;simp at h;exact⟨x,nP.2 ⟨hx,h.1.1⟩,by simp;omega⟩
 ·rintro⟨x,hx,h⟩;have:=nP.1 hx;simp at h;exact⟨x,this.1,by simp [this.2];omega⟩
theorem LZ{r:Ro}(hr:r.Fit){l:List Du}{d:Du}(h:Gd (own l d.p))(hv:Bi (own l d.p))(hd:0<=d.a/\d.a<d.b/\d.b<=2000):HE r l d=brk r (own l d.p) d:=by unfold HE brk;rw [U3 hr hv hd,Z6 hr h hv hd,Z7]
def cz(l:List Du)(i:Nat):Du:=l.getD i default
def ue(r:Ro)(l:List Du)(i:Nat):Bool:=
 decide (0<=(cz l i).p/\(cz l i).p<=r.bM.length - 1) && r9 (cz l i).a (cz l i).b && (decide (i=0) || decide ((cz l (i - 1)).a<=(cz l i).a)) && (brk r (own (l.take i) (cz l i).p) (cz l i)).isEmpty
theorem tQ{r:Ro}{l:List Du}{i:Nat}:ue r l i=true↔(0<=(cz l i).p/\(cz l i).p<=r.bM.length - 1)/\(0<=(cz l i).a/\(cz l i).a<(cz l i).b/\(cz l i).b<=2000)/\(i=0\/(cz l (i - 1)).a<=(cz l i).a)/\brk r (own (l.take i) (cz l i).p) (cz l i)=[]:=by unfold ue;simp only [Bool.and_eq_true,gQ,Bool.or_eq_true,decide_eq_true_eq,List.isEmpty_iff,and_assoc]
def Rt(r:Ro)(l:List Du)(n:Nat):Prop:=∀i,i<n->ue r l i=true
theorem kY{α:Type}[Inhabited α](l:List α){n:Nat}(h:n<l.length):l.take (n+1)=l.take n++[l.getD n default]:=by rw [List.take_add_one];simp [List.getD,h]
theorem Rt.val{r:Ro}{l:List Du}:∀{n:Nat},n<=l.length->Rt r l n->Bi (l.take n)
 | 0,_,_=>fun d hd=>by simp at hd
 | n+1,hn,h=>by
  rw [kY l (by omega)];intro d hd;rcases List.mem_append.1 hd with hd|hd
  ·exact Rt.val (by omega) (fun i hi=>h i (by omega)) d hd
  ·have:=List.mem_singleton.1 hd;subst this;exact(tQ.1 (h n (by omega))).2.1
theorem Oh{r:Ro}(hr:0<=r.fN){x y:Du}(h:oq r x y=true)(t:Int):¬ (x.on t=true/\y.on t=true):=by rintro⟨h1,h2⟩;simp [Du.on]at h1 h2;unfold oq at h;split at h<;>simp at h<;>omega
theorem Rt.Z8{r:Ro}(hr:0<=r.fN){l:List Du}(p:Int):∀{n:Nat},n<=l.length->Rt r l n->Gd (own (l.take n) p)
 | 0,_,_=>by simp [own,Gd]
 | n+1,hn,h=>by
  have ih:=Rt.Z8 hr p (n:=n) (by omega) (fun i hi=>h i (by omega));rw [kY l (by omega)];have hk:=tQ.1 (h n (by omega));change Gd (own (l.take n++[cz l n]) p);by_cases hp:(cz l n).p=p
  ·have e:own (l.take n++[cz l n]) p=own (l.take n) p++[cz l n]:=(by simp [own,List.filter_append,hp]);rw [e];refine List.pairwise_append.2 ⟨ih,List.pairwise_singleton ..,fun x hx y hy=>?_⟩;have:=List.mem_singleton.1 hy;subst this;rw [hp]at hk;exact Oh hr ((awe.1 hk.2.2.2).1 x hx)
  ·have e:own (l.take n++[cz l n]) p=own (l.take n) p:=(by simp [own,List.filter_append,hp]);rw [e];exact ih
def wh(r:Ro)(l:List Du):Int:=eB (List.range l.length) fun i=>!ue r l i
def fL(r:Ro)(l:List Du):Int × Int:=if r.ok=true then (if 60<l.length then (0,2)else if 0<=wh r l then (wh r l,101)else (0,0))else (0,100)
theorem Jg{r:Ro}{l:List Du}(h:wh r l<0):Rt r l l.length:=by
 intro i hi;have hz:=cO (List.range l.length) fun j=>!ue r l j;have e:decide (0<=eB (List.range l.length) fun j=>!ue r l j)=false:=by have:eB (List.range l.length) (fun j=>!ue r l j)=wh r l:=rfl;rw [this];simp;omega
 rw [e]at hz;have:=List.any_eq_false.1 hz.symm i (by simpa using hi);simpa using this
theorem Ge{r:Ro}{l:List Du}(h:Rt r l l.length):wh r l = -1:=bP _ _ fun j hj=>by simp at hj ⊢;exact h j hj
theorem dN{r:Ro}{l:List Du}:(fL r l).2=0↔r.Fit/\l.length<=60/\Rt r l l.length:=by
 unfold fL;by_cases h1:r.ok=true
 ·rw [if_pos h1];by_cases h2:60<l.length
  ·rw [if_pos h2];simp;omega
  ·rw [if_neg h2];by_cases h3:0<=wh r l
   ·rw [if_pos h3];simp;intro _ _ h;rw [Ge h]at h3;omega
   ·rw [if_neg h3];simp;exact⟨Ro.si.1 h1,by omega,Jg (by omega)⟩
 ·rw [if_neg h1];simp;intro h;exact absurd (Ro.si.2 h) h1
def wP(x k:Int):Bool:=x.toNat.testBit k.toNat
def mV(r:Ro)(n:Int):Pn:=r.bM.getD n.toNat default
def jZ(r:Ro)(l:List Du)(n:Int)(c:Cl):List Int:=
 (if wP (mV r n).rat c.gP=true then []else [1])++(if c.vX=true/\(mV r n).mW<c.b then [2]else [])++brk r (own l n) ⟨n,c.a,c.b⟩
def jx(c:Cl):Bool:=r9 c.a c.b && decide (0<=c.gP/\c.gP<=7)
def U4(r:Ro)(n:Int):Bool:=decide (0<=n/\n<=r.bM.length - 1)
def C7(r:Ro)(l:List Du)(c:Cl)(i k:Nat):Bool:=decide (i≠k) && (decide (2<=(mV r i).qV) && (jZ r l i c).isEmpty) && (decide (1<=(mV r k).qV) && (jZ r l k c).isEmpty)
def tF(r:Ro)(l:List Du)(c:Cl):List (Int × Int):=
 (List.range r.bM.length).flatMap fun i:Nat=>((List.range r.bM.length).filter fun k:Nat=>C7 r l c i k).map fun k:Nat=>((i:Int),(k:Int))
end Go.Sx
end
section
namespace Go.Sx
variable [aO]
section
variable {σ:Type} {LC:σ->List (Nat × Site)} {keys:List Nat}
def Ob(LC:σ->List (Nat × Site))(s:σ)(h:Hp):Hp:=hps (LC s) h
omit [aO]in
theorem jO(hk:∀s,(LC s).map (·.1)=keys){s:σ}{h:Hp}{k:Nat}(hn:keys.contains k=false):Ob LC s h k=h k:=
 bN (by rw [hk];simpa [List.contains_eq_mem]using hn)
omit [aO]in
theorem AV(hk:∀s,(LC s).map (·.1)=keys)(s s':σ)(h:Hp):Ob LC s (Ob LC s' h)=Ob LC s h:=by
 funext k;by_cases hn:k∈keys
 ·exact fR (by rw [hk];exact hn)
 ·have hn':keys.contains k=false:=by simpa [List.contains_eq_mem]using hn
  rw [jO hk hn',jO hk hn',jO hk hn']
omit [aO]in
theorem Ch(hk:∀s,(LC s).map (·.1)=keys){s:σ}{h:Hp}{L:List (Nat × Site)}(hn:(L.all fun p=>!keys.contains p.1)=true):hps L (Ob LC s h)=Ob LC s (hps L h):=by
 funext k;by_cases hm:k∈L.map (·.1)
 ·have v4:keys.contains k=false:=by obtain⟨p,hp,rfl⟩:=List.mem_map.1 hm;simpa using List.all_eq_true.1 hn p hp
  rw [jO hk v4];exact fR hm
 ·rw [bN hm];by_cases v4:k∈keys
  ·exact fR (by rw [hk];exact v4)
  ·have hn':keys.contains k=false:=(by simpa [List.contains_eq_mem]using v4);rw [jO hk hn',jO hk hn',bN hm]
omit [aO]in
theorem xN(hk:∀s,(LC s).map (·.1)=keys){s:σ}{h:Hp}{k:Nat}(hn:keys.contains k=false)(B:dZ):bD (Ob LC s h) k B=Ob LC s (bD h k B):=by
 funext j;by_cases hj:j∈keys
 ·have v0:j≠k:=by rintro rfl;simp [List.contains_eq_mem,hj]at hn
  simp only [bD,v0,if_false];exact fR (by rw [hk];exact hj)
 ·have hj':keys.contains j=false:=by simpa [List.contains_eq_mem]using hj
  rw [jO hk hj'];simp only [bD,jO hk hn,jO hk hj']
omit [aO]in
theorem Jz(hk:∀s,(LC s).map (·.1)=keys){s:σ}{h:Hp}{k i:Nat}(hn:keys.contains k=false)(B:dZ):bE (Ob LC s h) k i B=Ob LC s (bE h k i B):=by
 funext j;by_cases hj:j∈keys
 ·have v0:j≠k:=by rintro rfl;simp [List.contains_eq_mem,hj]at hn
  simp only [bE,v0,if_false];exact fR (by rw [hk];exact hj)
 ·have hj':keys.contains j=false:=by simpa [List.contains_eq_mem]using hj
  rw [jO hk hj'];simp only [bE,jO hk hn,jO hk hj']
theorem eV{s s':σ}{h:Hp}{k i:Nat}{B:dZ}(hk:∀s,(LC s).map (·.1)=keys)(hm:keys.contains k=true)(ho:∀j∈keys,j≠k->Ob LC s' h j=Ob LC s h j)
  (hw:Ob LC s' h k={Ob LC s h k with ah:=(Ob LC s h k).ah.set (i - (Ob LC s h k).base) B}):bE (Ob LC s h) k i B=Ob LC s' h:=by
 funext j;by_cases hj:j=k
 ·subst hj;simp only [bE,if_true];exact hw.symm
 ·simp only [bE,hj,if_false];by_cases v5:j∈keys
  ·exact(ho j v5 hj).symm
  ·have hj':keys.contains j=false:=(by simpa [List.contains_eq_mem]using v5);rw [jO hk hj',jO hk hj']
omit [aO]in
theorem Lw{s:σ}{h:Hp}(hk:∀s,(LC s).map (·.1)=keys):Mt LC keys s h↔h=Ob LC s h:=by
 constructor
 ·intro hm;exact(gJ fun k v1=>hm k (by rw [<-hk s];exact v1)).symm
 ·intro he k v1;have:h k=Ob LC s h k:=congrFun he k;rw [this];exact fR (by rw [hk];exact v1)
omit [aO]in
theorem IK{s:σ}{h:Hp}(hk:∀s,(LC s).map (·.1)=keys):Mt LC keys s (Ob LC s h):=(Lw hk).2 (AV hk s s h).symm
theorem cu{s:σ}{L L':List (Nat × Site)}{H:Hp}(h:aC (fun k=>Oi (hps L H k) (hps L' H k)) (L.map (·.1)++L'.map (·.1)))(hy:(L.map (·.1)++L'.map (·.1)).contains 999999999=false:=by first|rfl|simp):bA (Ob LC s (hps L H)) (Ob LC s (hps L' H)):=by
 have hb:=bK (H:=H) h hy;have vb:YS ∉ L.map (·.1)++L'.map (·.1):=by
  intro hm;have:(L.map (·.1)++L'.map (·.1)).contains 999999999=true:=by simpa [List.contains_eq_mem]using hm
  rw [hy]at this;cases this
 refine .sites (fun k=>?_) ?_
 ·by_cases hm:k∈(LC s).map (·.1)
  ·have:Ob LC s (hps L' H) k=Ob LC s (hps L H) k:=fR hm;rw [this];exact .same rfl rfl
  ·have e1:Ob LC s (hps L' H) k=hps L' H k:=bN hm;have e2:Ob LC s (hps L H) k=hps L H k:=bN hm;rw [e1,e2];by_cases hs:k∈L.map (·.1)++L'.map (·.1)
   ·exact zC h k hs
   ·rw [List.mem_append,not_or]at hs;rw [bN hs.1,bN hs.2];exact .same rfl rfl
 ·by_cases hm:YS∈(LC s).map (·.1)
  ·exact fR hm
  ·have e1:Ob LC s (hps L' H) YS=hps L' H YS:=bN hm;have e2:Ob LC s (hps L H) YS=hps L H YS:=bN hm;rw [e1,e2];exact hb.2
section
variable {D:Type}
open Classical in
noncomputable def ES(LC:σ->List (Nat × Site))(keys:List Nat)(enc:σ->D->List V)(pre:σ->D->Hp->Prop)(res:σ->D->Hp->V)(kO:σ->D->σ)(fin:σ->D->Hp->Hp):bB where
 go args h:=if x:∃p:σ × D,Mt LC keys p.1 h/\args=enc p.1 p.2 then ⟨pre x.choose.1 x.choose.2 h,res x.choose.1 x.choose.2 h,Ob LC (kO x.choose.1 x.choose.2) (fin x.choose.1 x.choose.2 h)⟩else bad h
variable {enc:σ->D->List V} {pre:σ->D->Hp->Prop} {res:σ->D->Hp->V} {kO:σ->D->σ} {fin:σ->D->Hp->Hp}
omit [aO]in
theorem lH(hk:∀s,(LC s).map (·.1)=keys)(inj:∀s s',(∀k∈keys,hps (LC s) cg k=hps (LC s') cg k)->s=s')(ein:∀s d d',enc s d=enc s d'->d=d')(s:σ)(d:D)(h:Hp) :
  (ES LC keys enc pre res kO fin).go (enc s d) (Ob LC s h)=⟨pre s d (Ob LC s h),res s d (Ob LC s h),Ob LC (kO s d) (fin s d (Ob LC s h))⟩:=by
 have x:∃p:σ × D,Mt LC keys p.1 (Ob LC s h)/\enc s d=enc p.1 p.2:=⟨(s,d),IK hk,rfl⟩
 have e1:x.choose.1=s:=inj _ _ fun k v1=>((x.choose_spec.1 k v1).symm.trans (IK (h:=h) hk k v1))
 have e2:x.choose.2=d:=ein s _ _ (by have:=x.choose_spec.2;rw [e1]at this;exact this.symm);simp only [ES,dif_pos x,e1,e2]
omit [aO]in
theorem dG(hk:∀s,(LC s).map (·.1)=keys){args:List V}{h:Hp}(hc:((ES LC keys enc pre res kO fin).go args h).c) :
  ∃s d,h=Ob LC s h/\args=enc s d/\pre s d h/\(ES LC keys enc pre res kO fin).go args h=⟨pre s d h,res s d h,Ob LC (kO s d) (fin s d h)⟩:=by
 by_cases x:∃p:σ × D,Mt LC keys p.1 h/\args=enc p.1 p.2
 ·simp only [ES,dif_pos x]at hc ⊢;exact⟨x.choose.1,x.choose.2,(Lw hk).1 x.choose_spec.1,x.choose_spec.2,hc,rfl⟩
 ·simp only [ES,dif_neg x]at hc;exact hc.elim
end
end
def Blank(own:List Nat)(h:Hp):Prop:=∀k∈own,h k={base:=(h k).base,ah:=[]}
def ec(own:List Nat)(n:Nat)(h:Hp):Hp:=hps (own.map fun k=>(k,{base:=(h k).base+n,ah:=[]})) h
omit [aO]in
theorem Blank.self{own:List Nat}{h:Hp}(hb:Blank own h):h=hps (own.map fun k=>(k,{base:=(h k).base,ah:=[]})) h:=by
 refine(gJ fun k hk=>?_).symm;have hk':k∈own:=by simpa [List.map_map,Function.comp_def]using hk
 rw [hb k hk'];clear hk
 induction own with
 | nil=>cases hk'
 | cons a r ih=>
  simp only [List.map_cons,hps];by_cases e:k=a
  ·subst e;rw [if_pos rfl]
  ·rw [if_neg e];rcases List.mem_cons.1 hk' with h|h
   ·exact absurd h e
   ·exact ih (fun j hj=>hb j (by simp [hj])) h
end Go.Sx
end
section
namespace Go.Sx
abbrev wr(n:Int):Int:=IntKind.wrap .i64 n
def tH(a b:Int):Bool:=decide (0<=a/\a<=wr (b - 1)) && decide (b<=2000)
def wo(r:Ro)(x y:Du):Bool:=if y.a<x.a then decide (wr (y.b+r.fN)<=x.a)else decide (wr (x.b+r.fN)<=y.a)
def zk(r:Ro)(x d:Du):Bool:=decide (0<=wr (x.a - d.b)/\wr (x.a - d.b)<=r.iW)
def IJ(r:Ro)(o:List Du)(x:Du):Bool:=decide (x.a<=r.iW) || o.any (zk r x)
def Dq(to:Int):List Du->Int->Int->Int
 | [],_,n=>n
 | d::r,done,n=>if max d.a done<min d.b to then Dq to r (min d.b to) (wr (n+wr (min d.b to - max d.a done)))else Dq to r done n
section
variable (oo:List Du->List Du)
def yZ(l:List Du)(x y:Int):Int:=Dq y (oo l) x 0
def Dr(l:List Du)(W T:Int):Bool:=l.all fun d=>decide (yZ oo l d.a (wr (d.a+W))<=T) && decide (yZ oo l (wr (d.b - W)) d.b<=T)
def tO(r:Ro)(o:List Du)(x:Du):List Int:=
 (if (o.any fun d=>!wo r d x)=true then [3]else [])++(if r.lY<wr (x.b - x.a)then [4]else [])++(if Dr oo (o++[x]) r.win r.tot=true then []else [5])++(if IJ r o x=true then []else [6])
def kG(r:Ro)(l:List Du)(i:Nat):Bool:=
 decide (0<=(cz l i).p/\(cz l i).p<=r.bM.length - 1) && tH (cz l i).a (cz l i).b && (decide (i=0) || decide ((cz l (i - 1)).a<=(cz l i).a)) && (tO oo r (own (l.take i) (cz l i).p) (cz l i)).isEmpty
def ar6(r:Ro)(l:List Du):Int:=eB (List.range l.length) fun i=>!kG oo r l i
def gT(r:Ro)(l:List Du):Int × Int:=if r.ok=true then (if 60<l.length then (0,2)else if 0<=ar6 oo r l then (ar6 oo r l,101)else (0,0))else (0,100)
def ar9(r:Ro)(l:List Du)(n:Int)(c:Cl):List Int:=
 (if wP (mV r n).rat c.gP=true then []else [1])++(if c.vX=true/\(mV r n).mW<c.b then [2]else [])++tO oo r (own l n) ⟨n,c.a,c.b⟩
def gR(c:Cl):Bool:=tH c.a c.b && decide (0<=c.gP/\c.gP<=7)
def fQ(r:Ro)(l:List Du)(b:Bool):Int:=if (gT oo r l).2=0 then (if b=true then 0 else 1)else (gT oo r l).2
def Fi(r:Ro)(l:List Du)(c:Cl)(i k:Nat):Bool:=decide (i≠k) && (decide (2<=(mV r i).qV) && (ar9 oo r l i c).isEmpty) && (decide (1<=(mV r k).qV) && (ar9 oo r l k c).isEmpty)
def Sk(r:Ro)(l:List Du)(c:Cl):List (Int × Int):=
 (List.range r.bM.length).flatMap fun i:Nat=>((List.range r.bM.length).filter fun k:Nat=>Fi oo r l c i k).map fun k:Nat=>((i:Int),(k:Int))
end
structure abu (oo:List Du->List Du):Prop where
 perm:∀l,(∀d∈l,0<=d.a/\d.a<=9223372036854775807)->(oo l).Perm l
 sort:∀l,(∀d∈l,0<=d.a/\d.a<=9223372036854775807)->(oo l).Pairwise fun x y=>x.a<=y.a
theorem Bi.beg{l:List Du}(h:Bi l):∀d∈l,0<=d.a/\d.a<=9223372036854775807:=fun d hd=>by have:=h d hd;omega
theorem tG{a b:Int}(hb : -9223372036854775808<b)(kJ:b<=9223372036854775807):tH a b=r9 a b:=by unfold tH r9;rw [show wr (b - 1)=b - 1 from aK (by omega) (by omega)]
theorem tN{a b:Int}(h:tH a b=true):0<=a/\a<=9223372036854775807:=by
 simp [tH]at h;have:wr (b - 1)<=9223372036854775807:=by rw [wr,IntKind.wrap_i64];omega
 omega
theorem DH{to:Int}(v6:to<=1000000):∀(l:List Du) (done n:Int),Bi l->-1000000<=done->done<=to->0<=n->n<=done+1000000->Dq to l done n=swp to l done n
 | [],_,_,_,_,_,_,_=>rfl
 | d::r,done,n,hv,h1,h2,h3,h4=>by
  have hd:=hv d (by simp);rw [Dq,swp];split
  ·rename_i h;rw [show wr (min d.b to - max d.a done)=min d.b to - max d.a done from aK (by omega) (by omega),show wr (n+(min d.b to - max d.a done))=n+(min d.b to - max d.a done)from aK (by omega) (by omega)];exact DH v6 r _ _ (fun x hx=>hv x (by simp [hx])) (by omega) (by omega) (by omega) (by omega)
  ·exact DH v6 r _ _ (fun x hx=>hv x (by simp [hx])) h1 h2 h3 h4
section
variable {oo:List Du->List Du} (hs:abu oo)
include hs
theorem Il{l:List Du}(hv:Bi l){x y:Int}(hx : -1000000<=x)(v2:x<=y)(hy:y<=1000000):yZ oo l x y=wk l x y:=by have hp:=hs.perm l hv.beg;have fJ:Bi (oo l):=fun d hd=>hv d (hp.mem_iff.1 hd);rw [yZ,DH hy (oo l) x 0 fJ hx v2 (by omega) (by omega),Of hp (hs.sort l hv.beg) v2]
theorem Z9{l:List Du}(hv:Bi l){W T:Int}(hW:1<=W/\W<=2000):Dr oo l W T=Jd l W T:=by unfold Dr Jd;rw [Bool.eq_iff_iff,List.all_eq_true,List.all_eq_true];refine forall_congr' fun d=>forall_congr' fun hd=>?_;have:=hv d hd;rw [show wr (d.a+W)=d.a+W from aK (by omega) (by omega),show wr (d.b - W)=d.b - W from aK (by omega) (by omega),Il hs hv (by omega) (by omega) (by omega),Il hs hv (by omega) (by omega) (by omega)]
theorem L3{r:Ro}(hr:r.Fit){o:List Du}(hv:Bi o){x:Du}(hx:0<=x.a/\x.a<x.b/\x.b<=2000):tO oo r o x=brk r o x:=by
 have h1:=hr.fN;have e1:(o.any fun d=>!wo r d x)=!(o.all fun d=>oq r d x):=by rw [List.not_all_eq_any_not,Bool.eq_iff_iff,List.any_eq_true,List.any_eq_true];refine exists_congr fun d=>and_congr_right fun hd=>?_;have:=hv d hd;unfold wo oq;rw [show wr (x.b+r.fN)=x.b+r.fN from aK (by omega) (by omega),show wr (d.b+r.fN)=d.b+r.fN from aK (by omega) (by omega)]
 have e2:IJ r o x=Jf r o x:=by unfold IJ Jf zk;congr 1;rw [Bool.eq_iff_iff,List.any_eq_true,List.any_eq_true];refine exists_congr fun d=>and_congr_right fun hd=>?_;have:=hv d hd;rw [show wr (x.a - d.b)=x.a - d.b from aK (by omega) (by omega)]
 have fJ:Bi (o++[x]):=fun d hd=>by
  rcases List.mem_append.1 hd with h|h
  ·exact hv d h
  ·have:=List.mem_singleton.1 h;subst this;exact hx
 unfold tO brk;rw [e1,e2,Z9 hs fJ hr.win,show wr (x.b - x.a)=x.b - x.a from aK (by omega) (by omega)];cases (o.all fun d=>oq r d x)<;>simp
theorem C8{r:Ro}(hr:r.Fit){l:List Du}(hv:Bi l){n:Int}{c:Cl}(hc:0<=c.a/\c.a<c.b/\c.b<=2000):ar9 oo r l n c=jZ r l n c:=by unfold ar9 jZ;rw [L3 hs hr (qC hv n) hc]
theorem Rt.kG{r:Ro}(hr:r.Fit){l:List Du}{i:Nat}(hi:i<l.length)(h:Rt r l (i+1)):kG oo r l i=true:=by have hk:=h i (by omega);have hk':=tQ.1 hk;have hv:=Rt.val (n:=i) (by omega) fun j hj=>h j (by omega);unfold Sx.kG;unfold ue at hk;rw [tG (by omega) (by omega),L3 hs hr (qC hv _) hk'.2.1];exact hk
theorem mM{r:Ro}{l:List Du}(h:(fL r l).2=0):gT oo r l=(0,0):=by
 obtain⟨h1,h2,h3⟩:=dN.1 h;have:ar6 oo r l = -1:=bP _ _ fun j hj=>by simp at hj ⊢;exact Rt.kG hs h1 hj fun i hi=>h3 i (by omega)
 unfold gT;rw [if_pos (Ro.si.2 h1),if_neg (by omega),if_neg (by rw [this];omega)]
end
end Go.Sx
end
section
namespace Go.Sx
structure Se where
 arm:Int
 ex:Bool
 deriving DecidableEq,Inhabited
def Se.row(s:Se):List V:=[.int .i64 s.arm,.bool s.ex]
theorem Se.aq(a b:Se)(h:a.row=b.row):a=b:=by cases a;cases b;simp [Se.row]at h;simp [h]
structure Gu where
 w:Int
 apu:Bool
 mW:Int
 apv:Bool
 deriving DecidableEq,Inhabited
def Gu.row(g:Gu):List V:=[.int .i64 g.w,.bool g.apu,.int .i64 g.mW,.bool g.apv]
theorem Gu.aq(a b:Gu)(h:a.row=b.row):a=b:=by cases a;cases b;simp [Gu.row]at h;simp [h]
structure Ca where
 emp:Int
 arm:Int
 st:List Se
 U5:Int
 low:Int
 high:Int
 deriving DecidableEq,Inhabited
def Ca.row(c:Ca):List V:=[.int .i64 c.emp,.int .i64 c.arm,.sl 2 (c.st.map Se.row),.int .i64 c.U5,.int .i64 c.low,.int .i64 c.high]
theorem Ca.aq(a b:Ca)(h:a.row=b.row):a=b:=by cases a;cases b;simp only [Ca.row,List.cons.injEq,V.sl.injEq,V.int.injEq,true_and,and_true]at h;obtain⟨h1,h2,h3,h4,h5,h6⟩:=h;rw [aR Se.aq h3,h1,h2,h4,h5,h6]
def Oj(n:Int):Bool:=decide (-1000<=n/\n<=1000)
def Ca.ok(c:Ca):Bool:=decide (1<=c.emp/\c.emp<=100000) && decide (c.st.length<=8) && decide (c.low<=c.high) && Oj c.arm && Oj c.U5 && Oj c.low && Oj c.high && c.st.all fun s=>Oj s.arm
structure Ca.Fit (c:Ca):Prop where
 emp:1<=c.emp/\c.emp<=100000
 n:c.st.length<=8
 lh:c.low<=c.high
 arm : -1000<=c.arm/\c.arm<=1000
 U5 : -1000<=c.U5/\c.U5<=1000
 low : -1000<=c.low/\c.low<=1000
 high : -1000<=c.high/\c.high<=1000
 st:∀s∈c.st,-1000<=s.arm/\s.arm<=1000
theorem Ca.si{c:Ca}:c.ok=true↔c.Fit:=by
 unfold Ca.ok Oj;simp only [Bool.and_eq_true,decide_eq_true_eq,List.all_eq_true];constructor
 ·rintro⟨⟨⟨⟨⟨⟨⟨h1,h2⟩,h3⟩,h4⟩,h5⟩,h6⟩,h7⟩,h8⟩;exact⟨h1,h2,h3,h4,h5,h6,h7,h8⟩
 ·rintro⟨h1,h2,h3,h4,h5,h6,h7,h8⟩;exact⟨⟨⟨⟨⟨⟨⟨h1,h2⟩,h3⟩,h4⟩,h5⟩,h6⟩,h7⟩,h8⟩
def Gu.ok(g:Gu):Bool:=decide (1<=g.w/\g.w<=500) && decide (0<=g.mW/\g.mW<=2000)
structure arU (c:Ca) (l:List Gu) (f:Sp):Prop where
 cf:c.Fit
 n:l.length<=c.st.length
 gf:∀g∈l,1<=g.w/\g.w<=500
 ff:0<=f.lo/\f.lo<=f.hi/\f.hi<=100000
end Go.Sx
end
section
namespace Go.Sx
theorem zA(m w:Int)(hw:0<w):(if m.tmod w<0 then m.tdiv w - 1 else m.tdiv w)=m / w:=by
 rcases Int.le_total 0 m with h|h
 ·rw [Int.tdiv_eq_ediv_of_nonneg h,Int.tmod_eq_emod_of_nonneg h,if_neg (by have:=Int.emod_nonneg m (Int.ne_of_gt hw);omega)]
 ·obtain⟨k,rfl⟩:∃k,m = -k:=⟨-m,by omega⟩
  have hk:0<=k:=by omega
  rw [Int.neg_tmod,Int.neg_tdiv,Int.tdiv_eq_ediv_of_nonneg hk,Int.tmod_eq_emod_of_nonneg hk];have e:=Int.mul_ediv_add_emod k w;have e2:=Int.emod_nonneg k (Int.ne_of_gt hw);have e3:=Int.emod_lt_of_pos k hw;generalize k / w=q at *;generalize k % w=t at *;split
  ·rename_i h0;symm;rw [Int.ediv_eq_iff_of_pos hw];constructor
   ·rw [Int.sub_mul,Int.neg_mul,Int.mul_comm q w];omega
   ·rw [Int.sub_mul,Int.neg_mul,Int.mul_comm q w];omega
  ·rename_i h0;symm;rw [Int.ediv_eq_iff_of_pos hw];constructor
   ·rw [Int.neg_mul,Int.mul_comm q w];omega
   ·rw [Int.neg_mul,Int.mul_comm q w];omega
structure Eas (r r':Ro):Prop where
 bM:r'.bM=r.bM
 win:r'.win=r.win
 lY:r.lY<=r'.lY
 fN:r'.fN<=r.fN
 tot:r.tot<=r'.tot
 iW:r.iW<=r'.iW
section
variable (oo:List Du->List Du)
end
theorem zD{l:List Du}{m:List Du}{i:Nat}(h:i<l.length):cz (l++m) i=cz l i:=by simp [cz,List.getD,List.getElem?_append_left h]
theorem U6{r:Ro}{l m:List Du}{i:Nat}(h:i<l.length):ue r (l++m) i=ue r l i:=by
 unfold ue;rw [zD h,List.take_append_of_le_length (by omega)];cases i with
 | zero=>rfl
 | succ i=>rw [show i+1 - 1=i by omega,zD (by omega)]
theorem Rt.snoc{r:Ro}{l:List Du}{d:Du}(h:Rt r l l.length)(hp:0<=d.p/\d.p<=r.bM.length - 1)(hd:0<=d.a/\d.a<d.b/\d.b<=2000)(hl:l=[]\/(cz l (l.length - 1)).a<=d.a)(hb:brk r (own l d.p) d=[]):Rt r (l++[d]) (l++[d]).length:=by
 intro i hi;simp at hi;by_cases tf:i<l.length
 ·rw [U6 tf];exact h i tf
 ·have:i=l.length:=by omega
  subst this;have e:cz (l++[d]) l.length=d:=by simp [cz,List.getD]
  unfold ue;rw [e,List.take_left' rfl,hb];simp only [Bool.and_eq_true];refine⟨⟨⟨decide_eq_true hp,gQ.2 hd⟩,?_⟩,rfl⟩;rcases hl with hl|hl
  ·simp [hl]
  ·by_cases h0:l.length=0
   ·simp [h0]
   ·rw [zD (by omega)];simp [hl]
end Go.Sx
end
end
