/- A part of a proof; no conditions. -/
import Derived.Test.YtegiclpanpmkdaaGreatDoorR43
import Derived.Test.YtegiclpanpmkdaaGreatDoorR31
set_option linter.all false
set_option maxRecDepth 100000
set_option maxHeartbeats 8000000
noncomputable section
section
namespace Go.Sx
open Go.Proofs
attribute [local simp] ri aa ints
attribute [local irreducible] bA
noncomputable abbrev E32:=EV [(77,.pure JG)] [] 3200 15
theorem b32:af E32 [] Tryz.f32 mc:=pb <| by
 rintro⟨r,l⟩ v3;by_cases hE:jA r l=0
 ·simp -dsimp [Tryz.f32,E32,aZ.row];repeat' first|omega|simp -dsimp [E32,fZ,aZ.row,v3,hE,HI.v]|apply aI|apply nI|intro
 ·simp -dsimp [Tryz.f32,E32,aZ.row];repeat' first|omega|simp -dsimp [E32,fZ,aZ.row,v3,hE]|apply aI|apply nI|intro
theorem adg:FO 32 mc:=pf b32 (.cons Yf .nil)
def rQ(q:Int):V:=.fn 89 [.ip 1 [[.int .i64 q]] 0 0]
theorem PC(a b:Int)(h:rQ a=rQ b):a=b:=by simpa [rQ]using h
@[simp] def bcE(d:Int × Int):List V:=[.int .i64 d.1,.ip 1 [[.int .i64 d.2]] 0 0]
theorem WW(a b:Int × Int)(h:bcE a=bcE b):a=b:=by obtain⟨a1,a2⟩:=a;obtain⟨b1,b2⟩:=b;simp [bcE]at h;rw [h.1,h.2]
theorem JH(n q:Int):aY bcE [.int .i64 n,.ip 1 [[.int .i64 q]] 0 0]=(n,q):=aA WW (n,q)
noncomputable abbrev beS:aB:=bS bcE (fun _=>True) fun d=>.bool (bey d.2 d.1)
noncomputable abbrev Tz:=EV [(56,.pure rgS)] [] 8900 8
theorem b89:af Tz [] Tryz.f89 beS:=pb <| by rintro⟨n,q⟩ _;simp -dsimp [Tryz.f89,Tz,bey];repeat' first|omega|simp -dsimp [Tz,bey]|apply aI|apply nI|intro
theorem aoh:FO 89 beS:=pf b89 (.cons Sl .nil)
@[simp] def WX(d:Int):List V:=[.int .i64 d]
theorem PD(a b:Int)(h:WX a=WX b):a=b:=by simpa using h
theorem PE(n:Int):aY WX [.int .i64 n]=n:=aA PD n
noncomputable abbrev abZ:aB:=bS WX (fun _=>True) fun d=>rQ d
noncomputable abbrev E88:=EV [] [] 8800 4 [(1,[1,50001])]
theorem b88:af E88 [] Tryz.f88 abZ:=pb <| by rintro n _;simp -dsimp [Tryz.f88,E88,rQ];repeat' first|omega|simp -dsimp [E88,rQ]|apply aI|apply nI|intro
theorem ani:FO 88 abZ:=pf b88 .nil
@[simp] def ppE(d:Int × Fl):List V:=[.int .i64 d.1,.ip 39 [d.2.row] 0 0]
theorem x9{a b:Fl}(h:V.ip 39 [a.row] 0 0=.ip 39 [b.row] 0 0):a=b:=by simp only [V.ip.injEq,List.cons.injEq,true_and,and_true]at h;exact Fl.aq _ _ h
theorem WY(a b:Int × Fl)(h:ppE a=ppE b):a=b:=by obtain⟨a1,a2⟩:=a;obtain⟨b1,b2⟩:=b;simp only [ppE,List.cons.injEq,V.int.injEq,true_and,and_true]at h;rw [h.1,x9 h.2]
theorem WZ(n:Int)(f:Fl):aY ppE [.int .i64 n,.ip 39 [f.row] 0 0]=(n,f):=aA WY (n,f)
noncomputable abbrev ppS:aB:=bS ppE (fun d=>1<=d.2.met.n/\d.2.met.n<=8) fun d=>.bool (bQ d.1 0 (d.2.met.n - 1))
noncomputable abbrev E90:=EV [(56,.pure rgS)] [] 9000 10
theorem b90:af E90 [] Tryz.f90 ppS:=pb <| by rintro⟨n,f⟩ ⟨h1,h2⟩;simp only at h1 h2;have w:=wi (f.met.n - 1);simp -dsimp [Tryz.f90,E90];repeat' first|omega|simp -dsimp [E90,w]|apply aI|apply nI|intro
theorem anm:FO 90 ppS:=pf b90 (.cons Sl .nil)
def wE(f:Fl):V:=.fn 92 [.ip 1 [[.fn 90 [.ip 39 [f.row] 0 0]]] 0 0,.ip 39 [f.row] 0 0]
theorem PF(a b:Fl)(h:wE a=wE b):a=b:=by simp only [wE,V.fn.injEq,List.cons.injEq,true_and,and_true]at h;exact x9 h.2
def PG(f:Fl)(x:Jb):Bool:=Jb.bad f.met.n f.gF x
@[simp] def jcE(d:Jb × Fl):List V:=[.agg d.1.row,.ip 1 [[.fn 90 [.ip 39 [d.2.row] 0 0]]] 0 0,.ip 39 [d.2.row] 0 0]
theorem aBD(a b:Jb × Fl)(h:jcE a=jcE b):a=b:=by obtain⟨a1,a2⟩:=a;obtain⟨b1,b2⟩:=b;simp only [jcE,List.cons.injEq,V.agg.injEq,true_and,and_true]at h;rw [Jb.aq _ _ h.1,x9 h.2.2]
theorem Ej(x:Jb)(f:Fl):aY jcE [.agg [.int .i64 x.a,.int .i64 x.b,.int .i64 x.dep,.int .i64 x.val,.bool x.AW],.ip 1 [[.fn 90 [.ip 39 [f.row] 0 0]]] 0 0,.ip 39 [f.row] 0 0]=(x,f):=aA aBD (x,f)
def jbQ(f:Fl):Prop:=(1<=f.met.n/\f.met.n<=8)/\1<=f.gF/\f.gF<=2000
noncomputable abbrev jcS:aB:=bS jcE (fun d=>jbQ d.2) fun d=>.bool (PG d.2 d.1)
noncomputable abbrev E92:=EV [(90,.pure ppS),(56,.pure rgS)] [] 9200 39
theorem b92:af E92 [] Tryz.f92 jcS:=pb <| by
 rintro⟨⟨a,b,d,v,w⟩,f⟩ ⟨h1,h2⟩;simp only at h1 h2;have wu:=wi (f.gF - 1);have v4:PG f ⟨a,b,d,v,w⟩=!(bQ a 0 (f.met.n - 1) && bQ b 0 (f.met.n - 1) && decide (a≠b) && bQ d 0 (f.gF - 1) && bQ v 0 1000000):=rfl;rcases Classical.propComplete (a=b)with c|c<;>cases d1:bQ a 0 (f.met.n - 1)<;>cases d2:bQ b 0 (f.met.n - 1)<;>cases d3:bQ d 0 (f.gF - 1)<;>cases d4:bQ v 0 1000000
 all_goals
  simp only [d1,d2,d3,d4,c,ne_eq,not_true,not_false_iff,decide_true,decide_false,Bool.and_true,Bool.and_false,Bool.true_and,Bool.false_and,Bool.not_true,Bool.not_false]at v4;simp -dsimp [Tryz.f92,E92,Jb.row];repeat' first|omega|simp -dsimp [E92,Jb.row,WZ,h1,wu,d1,d2,d3,d4,c,v4]|apply aI|apply nI|intro
theorem an4:FO 92 jcS:=pf b92 (.cons anm (.cons Sl .nil))
@[simp] def AX(d:Fl × List Jb):List V:=[.sl 5 (d.2.map Jb.row),wE d.1]
theorem MC(a b:Fl × List Jb)(h:AX a=AX b):a=b:=by obtain⟨a1,a2⟩:=a;obtain⟨b1,b2⟩:=b;simp only [AX,List.cons.injEq,V.sl.injEq,true_and,and_true]at h;rw [aR Jb.aq h.1,PF _ _ h.2]
theorem AY(q:Fl)(l:List Jb):aY AX [.sl 5 (l.map Jb.row),wE q]=(q,l):=aA MC (q,l)
structure PI (d:Fl × List Jb):Prop where
 l:d.2.length<=1000000
 q:(fun q:Fl=>jbQ q) d.1
noncomputable abbrev G6:aB:=bS AX PI fun d=>.int .i64 (eB d.2 (PG d.1))
noncomputable abbrev G7:aB:=bS AX PI fun d=>.bool (d.2.any (PG d.1))
noncomputable abbrev abT:=EV [(92,.pure jcS)] [] 15200 19
theorem amg:af abT [] Tryz.f152 G6:=pb <| by
 rintro⟨q,l⟩ ⟨hl,hq⟩;have hl:l.length<=1000000:=hl;try dsimp only at hq
 simp -dsimp [Tryz.f152,abT];refine ay [9,10,5,11,12,13,14,15,16,17,4,18,8] (fun k:{k:Nat // k<=l.length/\∀j (h:j<l.length),j<k->PG q l[j]=false}=>[(8,(true,.int .i64 k.1))]) (fun _=>cg) (fun k=>l.length - k.1) ⟨0,by omega,fun _ _ h=>by omega⟩ ?_ (bA.refl _) ?_
 ·simp [aj,aT]
 rintro⟨k,hk,v1⟩;by_cases aH:k<l.length
 ·have v0:(k:Int)<l.length:=by omega
  have wk:=wx k;obtain⟨x,hx,hx'⟩:=gx aH;cases hw:PG q x
  ·simp -dsimp [v0];repeat' first|omega|simp -dsimp [abT,v0,aH,hl,hx,hx',hw,wk,hq,wE,Ej,Jb.row]|apply aI|apply nI|intro
   refine⟨k+1,ag rfl ?_,bA.refl _,⟨by omega,fun j h hj=>?_⟩,by omega⟩
   ·simp [aj,aT]
   ·by_cases v5:j=k
    ·subst v5;rw [hx'];exact hw
    ·exact v1 j h (by omega)
  ·have hz:=cW l (PG q) aH (by rw [hx'];exact hw) v1;simp -dsimp [v0];repeat' first|omega|simp -dsimp [abT,v0,aH,hl,hx,hx',hw,wk,hz,hq,wE,Ej,Jb.row]|apply aI|apply nI|intro
 ·have v2:¬ (k:Int)<l.length:=by omega
  have hz:=bP l (PG q) (fun j h=>v1 j h (by omega));simp -dsimp [v2];repeat' first|omega|simp -dsimp [abT,v2,hz]|apply aI|apply nI|intro
theorem Pp:FO 152 G6:=pf amg (.cons an4 .nil)
noncomputable abbrev mE:=EV [(152,.pure G6)] [] 9100 9
theorem b91:af mE [] Tryz.f91 G7:=pb <| by rintro⟨q,l⟩ hP;have hz:=cO l (PG q);have hd:=AY q l;simp -dsimp only [wE]at hd;simp -dsimp [Tryz.f91,mE,wE];repeat' first|omega|simp -dsimp [mE,hP,hd,hz,wE]|apply aI|apply nI|intro
theorem amZ:FO 91 G7:=pf b91 (.cons Pp .nil)
namespace Fb
@[simp] def AZ(d:Int × List Int):List V:=[.sl 1 (d.2.map ri),rQ d.1]
theorem MD(a b:Int × List Int)(h:AZ a=AZ b):a=b:=by obtain⟨a1,a2⟩:=a;obtain⟨b1,b2⟩:=b;simp only [AZ,List.cons.injEq,V.sl.injEq,true_and,and_true]at h;rw [aR Cu h.1,PC _ _ h.2]
theorem uG(q:Int)(l:List Int):aY AZ [.sl 1 (l.map ri),rQ q]=(q,l):=aA MD (q,l)
structure JI (d:Int × List Int):Prop where
 l:d.2.length<=1000000
 q:(fun q:Int=>True) d.1
noncomputable abbrev G8:aB:=bS AZ JI fun d=>.int .i64 (eB d.2 (bey d.1))
noncomputable abbrev G9:aB:=bS AZ JI fun d=>.bool (d.2.any (bey d.1))
noncomputable abbrev SL:=EV [(89,.pure beS)] [] 13000 19
theorem anE:af SL [] Tryz.f130 G8:=pb <| by
 rintro⟨q,l⟩ ⟨hl,hq⟩;have hl:l.length<=1000000:=hl;try dsimp only at hq
 simp -dsimp [Tryz.f130,SL];refine ay [9,10,5,11,12,13,14,15,16,17,4,18,8] (fun k:{k:Nat // k<=l.length/\∀j (h:j<l.length),j<k->bey q l[j]=false}=>[(8,(true,.int .i64 k.1))]) (fun _=>cg) (fun k=>l.length - k.1) ⟨0,by omega,fun _ _ h=>by omega⟩ ?_ (bA.refl _) ?_
 ·simp [aj,aT]
 rintro⟨k,hk,v1⟩;by_cases aH:k<l.length
 ·have v0:(k:Int)<l.length:=by omega
  have wk:=wx k;obtain⟨x,hx,hx'⟩:=gx aH;cases hw:bey q x
  ·simp -dsimp [v0];repeat' first|omega|simp -dsimp [SL,v0,aH,hl,hx,hx',hw,wk,hq,rQ,JH,ri]|apply aI|apply nI|intro
   refine⟨k+1,ag rfl ?_,bA.refl _,⟨by omega,fun j h hj=>?_⟩,by omega⟩
   ·simp [aj,aT]
   ·by_cases v5:j=k
    ·subst v5;rw [hx'];exact hw
    ·exact v1 j h (by omega)
  ·have hz:=cW l (bey q) aH (by rw [hx'];exact hw) v1;simp -dsimp [v0];repeat' first|omega|simp -dsimp [SL,v0,aH,hl,hx,hx',hw,wk,hz,hq,rQ,JH,ri]|apply aI|apply nI|intro
 ·have v2:¬ (k:Int)<l.length:=by omega
  have hz:=bP l (bey q) (fun j h=>v1 j h (by omega));simp -dsimp [v2];repeat' first|omega|simp -dsimp [SL,v2,hz]|apply aI|apply nI|intro
theorem ahS:FO 130 G8:=pf anE (.cons aoh .nil)
noncomputable abbrev E68:=EV [(130,.pure G8)] [] 6800 9
theorem b68:af E68 [] Tryz.f68 G9:=pb <| by rintro⟨q,l⟩ hP;have hz:=cO l (bey q);have hd:=uG q l;simp -dsimp only [rQ]at hd;simp -dsimp [Tryz.f68,E68,rQ];repeat' first|omega|simp -dsimp [E68,hP,hd,hz,rQ]|apply aI|apply nI|intro
theorem ams:FO 68 G9:=pf b68 (.cons ahS .nil)
end Fb
theorem PK(f:Fl)(l:List V):(f.row++l).take 39=f.row:=rfl
theorem Hh(f:Fl)(x:V)(l:List V):(f.row++x::l).take 40=f.row++[x]:=rfl
theorem PL(f:Fl)(x:V)(l:List V):(f.row++x::l).drop 40=l:=rfl
theorem Hi(f:Fl)(x y:V)(l:List V):(f.row++x::y::l).drop 41=l:=rfl
theorem aaZ(f:Fl)(x:V)(l:List V):(f.row++x::l)[39]?=some x:=rfl
theorem PM(f:Fl)(x:V)(l:List V)(h:39<(f.row++x::l).length):(f.row++x::l)[39]=x:=rfl
theorem PN(f:Fl)(x y:V)(l:List V)(h:40<(f.row++x::y::l).length):(f.row++x::y::l)[40]=y:=rfl
theorem aa0(f:Fl)(x y:V)(l:List V):(f.row++x::y::l)[40]?=some y:=rfl
def W2(k:Nat):V:=if k=0 then .nil else .bw 3868 0 k
def Ek(f:Fl)(k:Nat):Site:=if k=0 then {base:=0,ah:=[]}else {base:=0,ah:=[{z:=1,els:=(rR f k).map ri,ty:=3}]}
def PO(f:Fl)(k:Nat):Site:={base:=0,ah:=[{z:=41,els:=[f.row++[mL (zX f),W2 k]],ty:=179,cl:=decide (k=0)}]}
def plB(f:Fl):Site:={base:=0,ah:=[{z:=1,els:=[[.fn 90 [.ip 39 [f.row] 0 0]]],ty:=134}]}
theorem W3{h:Hp}{f:Fl}{n:Nat}(hn:n=f.eH.ax.toNat)(h1:n≠0->h 3868={base:=0,ah:=[{z:=1,els:=(rR f n).map ri,ty:=3}]})(h2:h 3841=PO f n):ak 3 h (.bG 3841 0 1 0 0)=(True,.ip 41 [qs f] 0 0):=by
 have t1:ak 2 h (W2 n)=(True,Cv (rR f n)):=by
  unfold W2 Cv;by_cases e:n=0
  ·subst e;rfl
  ·have vr:rR f n≠[]:=fun h=>e (by have:=congrArg List.length h;simpa [nB]using this);have hg:aL h 3868 0=some {z:=1,els:=(rR f n).map ri,ty:=3}:=(by simp [aL,h1 e]);rw [if_neg e,if_neg vr,ak,hg];simp [bV,nB]
 have hg:aL h 3841 0=some {z:=41,els:=[f.row++[mL (zX f),W2 n]],ty:=179,cl:=decide (n=0)}:=by simp [aL,h2,PO]
 have hcs:∀l,cL (ak 2 h) (f.row++l)=((cL (ak 2 h) l).1,f.row++(cL (ak 2 h) l).2):=fun l=>by simp only [Fl.row,Met.row,Wt.row,aZ.row,Ro.row,bp,List.cons_append,List.nil_append,cL,ak,V.leaf,true_and]
 rw [ak,hg];by_cases e:n=0
 ·simp only [bV,dc,hcs,cL,t1,V.leaf];subst e;simp [ak,qs,<-hn,W2,mL,rR,Cv]
 ·simp only [bV,dc,hcs,cL,t1,V.leaf];simp [ak,qs,<-hn,e,mL,Cv,W2]
noncomputable abbrev nfS:aB:=bS Hj Cw fun f=>.dB [.ip 41 [qs f] 0 0,.int .i64 0]
noncomputable abbrev E37:=EV [(28,.pure PR),(16,.pure OpS),(14,.pure ME),(32,.pure mc),(87,.pure chS),(88,.pure abZ),(68,.pure Fb.G9),(56,.pure rgS),(90,.pure ppS),(91,.pure G7),(33,.pure rS)] [] 3700 173 [(1,[1,50001])]
theorem b37:af E37 [(18,([14,25],[[0,1,2,3,4,5,6,7,8,9,10,11,12,13,14,15,16,17,18,19,20,21,22,23,24,25,26,27,28,29]]))] Tryz.f37 nfS:=pb <| by
 rintro f hK;have hK:Cw f:=hK;have hf:=hK.ok;have s9:=PT hf.met;have vs:uH f.met=0:=by simp [uH,hf.met]
 have PU:=yd hf.met;have o1:=hK.op (p:=0) (t:=0) ⟨by omega,by omega⟩ ⟨by omega,by omega⟩;have W4:=hf.agZ;have v3:=PW hf.op;have vx:=hf.op;obtain⟨vy,arE,_⟩:=dN.1 hf.du;have zY:MG (f.gv,f.wF):=⟨by have:=vy.n;simp only;omega,by simp only;omega⟩
 have W5:=mM gZ hf.du;have v6:=hf.dU;have v7:=hf.lz;have z5:=hf.JJ;have wn:=wi (f.met.n - 1);have ez:f.dU.any (bey (f.met.n - 1))=false:=List.any_eq_false.2 fun x hx=>by have:=hf.ab0 x hx;simp [bey,bQ];omega
 have kJ:f.lz.any (bey 7)=false:=List.any_eq_false.2 fun x hx=>by have:=hf.ab1 x hx;simp [bey,bQ];omega
 have Hl:f.jobs.any (PG f)=false:=List.any_eq_false.2 fun x hx=>by have:=hf.job x hx;simp [PG,Jb.bad,bQ];omega
 have Wi:Fb.JI (f.met.n - 1,f.dU):=⟨by simp only;omega,trivial⟩
 have GR:Fb.JI (7,f.lz):=⟨by simp only;omega,trivial⟩
 have vP:PI (f,f.jobs):=⟨by have:=hf.jobs;simp only;omega,PU,hf.gF⟩
 have v8:=Fb.uG (f.met.n - 1) f.dU;have v9:=Fb.uG 7 f.lz;have Cx:=AY f f.jobs;simp -dsimp only [rQ]at v8 v9;simp -dsimp only [wE]at Cx;have g1:bQ f.turn 0 100=true:=by have:=hf.turn;simp [bQ];omega
 have g2:bQ f.hour 1 100=true:=by have:=hf.hour;simp [bQ];omega
 have g3:bQ f.rU 0 f.eH.ax=true:=by have:=hf.rU;simp [bQ];omega
 have g4:bQ f.gF 1 2000=true:=by have:=hf.gF;simp [bQ];omega
 have g5:((6:Int)<f.jobs.length)=False:=eq_false (by have:=hf.jobs;omega);have OU:rV f.met.n.toNat f.Ah=zX f:=rfl;obtain⟨n,hn⟩:∃n:Nat,f.eH.ax=n:=⟨f.eH.ax.toNat,by omega⟩
 have vV:n=f.eH.ax.toNat:=by omega
 rw [hn]at v6 v7 g3;simp -dsimp [Tryz.f37,E37];repeat' first|omega|simp -dsimp [E37,E4,ye,E6,gr,dw,PE,rQ,wE,s9,vs,o1,W4,OU,v3,vx,zY,W5,v6,v7,hn,wn,ez,kJ,Hl,Wi,GR,vP,v8,v9,Cx,g1,g2,g3,g4,g5,aS,cQ,PK,Hh,PL,Hi,mL]|apply aI|apply nI|intro
 refine ay [144,145,17,147,148,149,150,151,152,146,153,154,18,19,155,156,157,158,20,159,160,161,162,163,164,165,166,167,168,169,170,171,143] (fun k:{k:Nat // k<=n}=>[(143,(true,.int .i64 k.1))]) (fun k=>hps [(3868,Ek f k.1),(3841,PO f k.1),(3715,plB f),(3701,fS f)] cg) (fun k=>n - k.1) ⟨0,by omega⟩ ?_ ?_ ?_
 ·simp [aj,aT]
 ·(try simp -dsimp only [hpx]);refine ai ?_;simp -dsimp [aC,Ek,W2,PO,plB,fS,mL,OU]<;>exact rz
 rintro⟨k,hk⟩;dsimp only;by_cases aH:k<n
 ·have v0:(k:Int)<n:=by omega
  have wk:=wx k;have W6:RLM.oW ⟨f.eH,f.ko,k,0⟩:=v3;have hL:Ai f k=if dR f.eH f.ko k 0=0 then de f.eH f.ko k 0 * f.hour else -1:=rfl;have hs:=PX f k;have vW:=nB f k;have v4:0<=de f.eH f.ko k 0/\de f.eH f.ko k 0<=100:=by
   have h0:=yf (f:=f) k;unfold qP at h0;by_cases e:dR f.eH f.ko k 0=0
   ·rw [if_pos e]at h0;exact⟨by have:=(uI e).2.2.2;omega,h0.2⟩
   ·unfold de;rw [if_neg e];omega
  have z6:=hf.hour;have z7:0<=de f.eH f.ko k 0 * f.hour/\de f.eH f.ko k 0 * f.hour<=100 * 100:=⟨Int.mul_nonneg v4.1 (by omega),Int.mul_le_mul v4.2 (by omega) (by omega) (by omega)⟩
  have wl:=wi (de f.eH f.ko k 0 * f.hour);have vd:W2 (k+1)=.bw 3868 0 (k+1):=if_neg (by omega);have ab2:Ek f (k+1)={base:=0,ah:=[{z:=1,els:=(rR f k).map ri++[ri (Ai f k)],ty:=3}]}:=by rw [Ek,if_neg (by omega),hs,List.map_append];rfl
  have W7:PO f (k+1)={base:=0,ah:=[{z:=41,els:=[f.row++[mL (zX f),.bw 3868 0 (k+1)]],ty:=179,cl:=false}]}:=by rw [PO,vd];rfl
  generalize va:de f.eH f.ko k 0=F at *;generalize vb:F * f.hour=FH at *;generalize Ai f k=A at *;by_cases k0:k=0
  ·have ab3:Ek f k={base:=0,ah:=[]}:=(by rw [k0];rfl);have ab4:PO f k={base:=0,ah:=[{z:=41,els:=[f.row++[mL (zX f),.nil]],ty:=179,cl:=true}]}:=(by rw [k0];rfl);have vX:(rR f k).map ri=[]:=(by rw [k0];rfl);have W7:PO f (k+1)={base:=0,ah:=[{z:=41,els:=[f.row++[mL (zX f),.bw 3868 0 1]],ty:=179,cl:=false}]}:=(by rw [W7,k0]);rw [vX]at ab2;rw [ab3,ab4];rcases Classical.propComplete (dR f.eH f.ko k 0=0)with c|c
   all_goals
    simp only [c,if_true,if_false]at hL;simp -dsimp [v0,plB,fS,mL];repeat' first|omega|simp -dsimp [E37,v0,hn,ta,W6,c,vb,wl,wk,PK,Hh,PL,Hi,aaZ,aa0,PM,PN,va,mL,plB,fS]|apply aI|apply nI|intro
    all_goals
     refine⟨k+1,ag rfl ?_,?_,by omega,by omega⟩
     ·simp [aj,aT]
     ·rw [ab2,W7,hL];(try simp -dsimp only [hpx]);refine ai ?_;simp -dsimp [aC,plB,fS,mL,ri]<;>exact rz
  ·have ab3:Ek f k={base:=0,ah:=[{z:=1,els:=(rR f k).map ri,ty:=3}]}:=if_neg k0;have ab4:PO f k={base:=0,ah:=[{z:=41,els:=[f.row++[mL (zX f),.bw 3868 0 k]],ty:=179,cl:=false}]}:=(by rw [PO,W2,if_neg k0,decide_eq_false k0]);rw [ab3,ab4];generalize rR f k=L at *;have Aj:(L.length+1) * 8<=140737488355328:=(by omega);have z0:L.length=k:=vW;rcases Classical.propComplete (dR f.eH f.ko k 0=0)with c|c
   all_goals
    simp only [c,if_true,if_false]at hL;simp -dsimp [v0,plB,fS,mL];repeat' first|omega|simp -dsimp [E37,v0,hn,ta,W6,c,vb,wl,wk,z0,Aj,PK,Hh,PL,Hi,aaZ,aa0,PM,PN,va,mL,plB,fS]|apply aI|apply nI|intro
    all_goals
     refine⟨k+1,ag rfl ?_,?_,by omega,by omega⟩
     ·simp [aj,aT]
     ·rw [ab2,W7,hL];(try simp -dsimp only [hpx]);refine ai ?_;simp -dsimp [aC,plB,fS,mL,ri]<;>exact rz
 have v2:¬ (k:Int)<n:=by omega
 have z1:k=n:=by omega
 have hle:∀h:Hp,h 3868=Ek f k->h 3841=PO f k->ak 3 h (.bG 3841 0 1 0 0)=(True,.ip 41 [qs f] 0 0):=fun h h1 h2=>W3 (z1.trans vV) (fun e=>by rw [h1,Ek,if_neg e]) h2;have z2:∀h:Hp,ak 3 h (.int .i64 0)=(True,.int .i64 0):=fun _=>rfl;simp -dsimp [v2,-ak];repeat' first|omega|simp -dsimp [E37,v2,-ak,hle,z2]|apply aI|apply nI|intro
theorem anj:FO 37 nfS:=pf b37 (.cons AE (.cons aiG (.cons anu (.cons adg (.cons anf (.cons ani (.cons Fb.ams (.cons Sl (.cons anm (.cons amZ (.cons adh .nil)))))))))))
end Go.Sx
end
section
namespace Go.Sx
open Go.Proofs
attribute [local simp] ri aa ints
attribute [local irreducible] bA
structure BlP (d:Fl × Int × Int):Prop where
 jm:Xa d
 can:jR d.1 d.2.1.toNat d.2.2.toNat=true
 oa:DY d.1 d.2.1.toNat d.2.2.toNat=true
noncomputable abbrev MH:aB:=bS El BlP fun d=>.dB [.int .i64 (jJ d.1 d.2.1.toNat d.2.2.toNat).lv,.int .i64 (jJ d.1 d.2.1.toNat d.2.2.toNat).hm,.int .i64 (jJ d.1 d.2.1.toNat d.2.2.toNat).mD,.int .i64 0]
noncomputable abbrev X5:=EV [(37,.pure nfS),(38,.pure ab5),(39,.pure Xb)] [] 1500 41 [(1,[3,50003])]
theorem b15:af X5 [] Tryz.f15 MH:=pb <| by
 rintro⟨f,j,m⟩ ⟨hJ,hc,ho⟩;simp only at hc ho;have hK:=hJ.ok;have hj:=hJ.j;have hm:=hJ.m;simp only at hK hj hm;have z3:Xc f j m=true:=PY.2 ⟨hj,hm⟩;have hq:zZ f j.toNat m.toNat=true:=by simp only [jR,Bool.and_eq_true]at hc;exact hc.1.1.1
 have hO:=uJ hq;have z4:CnP (f,j,m,false):=⟨hJ⟩
 generalize hB:jJ f j.toNat m.toNat=B at *;obtain⟨b1,b2,b3,b4⟩:=B;simp -dsimp [Tryz.f15,X5,Bk.row];repeat' first|omega|simp -dsimp [X5,Bk.row,fC,nC,Em,hK,z3,z4,hB,hO,hc,ho]|apply aI|apply nI|intro
theorem aiF:FO 15 MH:=pf b15 (.cons anj (.cons agW (.cons abS .nil)))
end Go.Sx
end
end
