/- A part of a proof; no conditions. -/
import Derived.Test.YtegiclpanpmkdaaGreatDoorR46
import Derived.Test.YtegiclpanpmkdaaGreatDoorR31
import Derived.Test.YtegiclpanpmkdaaGreatDoorR52
import Derived.Test.YtegiclpanpmkdaaGreatDoorR19
import Derived.Test.YtegiclpanpmkdaaGreatDoorR40
set_option linter.all false
set_option maxRecDepth 100000
set_option maxHeartbeats 8000000
noncomputable section
section
namespace Go.Sx
open Go.Proofs
attribute [local simp] ri aa ints
attribute [local irreducible] bA
def dn(z:Nat):V->V
 | .nil=>.sl z []
 | v=>v
@[simp] theorem auu(z:Nat):dn z .nil=.sl z []:=rfl
@[simp] theorem auP(z z':Nat)(l:List (List V)):dn z (.sl z' l)=.sl z' l:=rfl
@[simp] theorem auQ(z f:Nat)(l:List V):dn z (.fn f l)=.fn f l:=rfl
@[simp] theorem auv(z:Nat)(l:List V):dn z (.agg l)=.agg l:=rfl
theorem at0{P:Program}{n:FuncId}{D:Type}{E:D->List V}{dec:List V->D}{pre:D->Prop}{R:D->V}(auw:List V->D)(h:dM P n (.pure ⟨D,E,dec,pre,R⟩)):dM P n (.pure ⟨D,E,auw,pre,R⟩) where
 call:=h.call
 heap:=fun _ h=>by cases h
 iter:=fun _ h=>by cases h
 pure:=fun S' hS=>by cases hS;intro d hd;exact h.pure _ rfl d hd
structure Fw where
 s:Sr
 b:Bk
 deriving Inhabited
def Fw.row(x:Fw):List V:=[.int .i64 x.s.j,.int .i64 x.s.m,.int .i64 x.s.c,.int .i64 x.s.k,.int .i64 x.b.lv,.int .i64 x.b.ar,.int .i64 x.b.hm,.int .i64 x.b.mD]
theorem Fw.aq(a b:Fw)(h:a.row=b.row):a=b:=by obtain⟨⟨a1,a2,a3,a4⟩,⟨a5,a6,a7,a8⟩⟩:=a;obtain⟨⟨b1,b2,b3,b4⟩,⟨b5,b6,b7,b8⟩⟩:=b;simp [Fw.row]at h;simp [h]
def asd(l:List Fw):V:=if l=[]then .nil else .sl 8 (l.map Fw.row)
theorem aso:asd []=.nil:=rfl
theorem ase{l:List Fw}(h:l≠[]):asd l=.sl 8 (l.map Fw.row):=if_neg h
theorem atc{a b:List Fw}(h:asd a=asd b):a=b:=by
 unfold asd at h;by_cases ha:a=[]<;>by_cases hb:b=[]
 ·rw [ha,hb]
 ·rw [if_pos ha,if_neg hb]at h;cases h
 ·rw [if_neg ha,if_pos hb]at h;cases h
 ·rw [if_neg ha,if_neg hb]at h;simp only [V.sl.injEq,true_and]at h;exact aR Fw.aq h
def E1(f:Fl)(l:List Sr):List Fw:=l.map fun s=>⟨s,ew f s⟩
theorem ass(f:Fl)(l:List Sr):(E1 f l).length=l.length:=by simp [E1]
theorem asv(f:Fl):E1 f []=[]:=rfl
theorem asJ{f:Fl}{l:List Sr}(h:l≠[]):E1 f l≠[]:=fun e=>h (List.map_eq_nil_iff.1 e)
theorem atC{f:Fl}{a b:List Sr}(h:E1 f a=E1 f b):a=b:=by have:=congrArg (List.map Fw.s) h;simpa [E1,List.map_map,Function.comp_def]using this
theorem atD{f:Fl}{l:List Sr}{k:Nat}{x:Sr}(h:l[k]?=some x):(E1 f l)[k]?=some ⟨x,ew f x⟩:=by simp [E1,h]
def plR(f:Fl)(l:List Sr):List V:=[.ip 41 [qs f] 0 0,asd (E1 f l),.sl 3 ((j9 f l).map Du.row),.int .i64 (V1 f l)]
@[simp] def plI(f:Fl)(l:List Sr):V:=.ip 4 [plR f l] 0 0
theorem ar8{f g:Fl}{a b:List Sr}(h:plI f a=plI g b):f=g/\a=b:=by simp only [plI,plR,V.ip.injEq,List.cons.injEq,true_and,and_true]at h;have h1:=Fl.aq _ _ (List.append_inj h.1 rfl).1;subst h1;exact⟨rfl,atC (atc h.2.1)⟩
@[simp] theorem auy(f:Fl)(l:List Sr):(plR f l).length=4:=rfl
@[simp] theorem auR(f:Fl)(l:List Sr):(plR f l)[0]?=some (.ip 41 [qs f] 0 0):=rfl
@[simp] theorem auS(f:Fl)(l:List Sr):(plR f l)[1]?=some (asd (E1 f l)):=rfl
@[simp] theorem auT(f:Fl)(l:List Sr):(plR f l)[2]?=some (.sl 3 ((j9 f l).map Du.row)):=rfl
@[simp] theorem auU(f:Fl)(l:List Sr):(plR f l)[3]?=some (.int .i64 (V1 f l)):=rfl
abbrev IP:=Int × Int
def rdP(q:IP)(x:Fw):Bool:=decide (x.s.m=q.1/\x.b.lv<=q.2/\q.2<x.b.hm)
def rdV(q:IP):V:=.fn 271 [.ip 1 [[.int .i64 q.1]] 0 0,.ip 1 [[.int .i64 q.2]] 0 0]
theorem atF(a b:IP)(h:rdV a=rdV b):a=b:=by simp only [rdV,V.fn.injEq,List.cons.injEq,V.ip.injEq,V.int.injEq,true_and,and_true]at h;exact Prod.ext h.1 h.2
@[simp] def atd(d:Fw × IP):List V:=[.agg d.1.row,.ip 1 [[.int .i64 d.2.1]] 0 0,.ip 1 [[.int .i64 d.2.2]] 0 0]
theorem ate(a b:Fw × IP)(h:atd a=atd b):a=b:=by obtain⟨a1,a2,a3⟩:=a;obtain⟨b1,b2,b3⟩:=b;simp only [atd,List.cons.injEq,V.agg.injEq,V.ip.injEq,V.int.injEq,true_and,and_true]at h;rw [Fw.aq _ _ h.1,h.2.1,h.2.2]
theorem asD(x:Fw)(q:IP):aY atd [.agg [.int .i64 x.s.j,.int .i64 x.s.m,.int .i64 x.s.c,.int .i64 x.s.k,.int .i64 x.b.lv,.int .i64 x.b.ar,.int .i64 x.b.hm,.int .i64 x.b.mD],.ip 1 [[.int .i64 q.1]] 0 0,.ip 1 [[.int .i64 q.2]] 0 0]=(x,q):=aA ate (x,q)
noncomputable abbrev at1:aB:=bS atd (fun _=>True) fun d=>.bool (rdP d.2 d.1)
noncomputable abbrev Jl:=EV [] [] 27100 24
theorem apY:af Jl [] Tryz.f271 at1:=pb <| by
 rintro⟨⟨⟨a1,a2,a3,a4⟩,⟨a5,a6,a7,a8⟩⟩,m,t⟩ _;have e:rdP (m,t) ⟨⟨a1,a2,a3,a4⟩,⟨a5,a6,a7,a8⟩⟩=decide (a2=m/\a5<=t/\t<a7):=rfl;rcases Classical.propComplete (a2=m)with c1|c1<;>rcases Classical.propComplete (a5<=t)with c2|c2<;>rcases Classical.propComplete (t<a7)with c3|c3
 all_goals
  simp only [c1,c2,c3,and_true,and_false,and_self,decide_true,decide_false]at e;have hb:(a2 == m)=decide (a2=m):=rfl;simp only [c1,decide_true,decide_false]at hb;simp -dsimp [Tryz.f271,Jl,Fw.row];repeat' first|omega|simp -dsimp [Jl,Fw.row,c1,c2,c3,hb,e]|apply aI|apply nI|intro
theorem akL:FO 271 at1:=pf apY .nil
@[simp] def asg(d:IP × List Fw):List V:=[.sl 8 (d.2.map Fw.row),rdV d.1]
theorem asW(a b:IP × List Fw)(h:asg a=asg b):a=b:=by obtain⟨a1,a2⟩:=a;obtain⟨b1,b2⟩:=b;simp only [asg,List.cons.injEq,V.sl.injEq,true_and,and_true]at h;rw [aR Fw.aq h.1,atF _ _ h.2]
theorem asi(q:IP)(l:List Fw):aY asg [.sl 8 (l.map Fw.row),rdV q]=(q,l):=aA asW (q,l)
structure asR (d:IP × List Fw):Prop where
 l:d.2.length<=1000000
 q:(fun q:IP=>True) d.1
noncomputable abbrev asK:aB:=bS asg asR fun d=>.int .i64 (eB d.2 (rdP d.1))
noncomputable abbrev asL:aB:=bS asg asR fun d=>.bool (d.2.any (rdP d.1))
noncomputable abbrev asa:=EV [(271,.pure at1)] [] 15600 19
theorem auG:af asa [] Tryz.f156 asK:=pb <| by
 rintro⟨q,l⟩ ⟨hl,hq⟩;have hl:l.length<=1000000:=hl;try dsimp only at hq
 simp -dsimp [Tryz.f156,asa];refine ay [9,10,5,11,12,13,14,15,16,17,4,18,8] (fun k:{k:Nat // k<=l.length/\∀j (h:j<l.length),j<k->rdP q l[j]=false}=>[(8,(true,.int .i64 k.1))]) (fun _=>cg) (fun k=>l.length - k.1) ⟨0,by omega,fun _ _ h=>by omega⟩ ?_ (bA.refl _) ?_
 ·simp [aj,aT]
 rintro⟨k,hk,v1⟩;by_cases aH:k<l.length
 ·have v0:(k:Int)<l.length:=by omega
  have wk:=wx k;obtain⟨x,hx,hx'⟩:=gx aH;cases hw:rdP q x
  ·simp -dsimp [v0];repeat' first|omega|simp -dsimp [asa,v0,aH,hl,hx,hx',hw,wk,hq,rdV,asD,Fw.row]|apply aI|apply nI|intro
   refine⟨k+1,ag rfl ?_,bA.refl _,⟨by omega,fun j h hj=>?_⟩,by omega⟩
   ·simp [aj,aT]
   ·by_cases zd:j=k
    ·subst zd;rw [hx'];exact hw
    ·exact v1 j h (by omega)
  ·have hz:=cW l (rdP q) aH (by rw [hx'];exact hw) v1;simp -dsimp [v0];repeat' first|omega|simp -dsimp [asa,v0,aH,hl,hx,hx',hw,wk,hz,hq,rdV,asD,Fw.row]|apply aI|apply nI|intro
 ·have v4:¬ (k:Int)<l.length:=by omega
  have hz:=bP l (rdP q) (fun j h=>v1 j h (by omega));simp -dsimp [v4];repeat' first|omega|simp -dsimp [asa,v4,hz]|apply aI|apply nI|intro
theorem aui:FO 156 asK:=pf auG (.cons akL .nil)
noncomputable abbrev E99:=EV [(156,.pure asK)] [] 9900 9
theorem b99:af E99 [] Tryz.f99 asL:=pb <| by rintro⟨q,l⟩ hP;have hz:=cO l (rdP q);have hd:=asi q l;simp -dsimp only [rdV]at hd;simp -dsimp [Tryz.f99,E99,rdV];repeat' first|omega|simp -dsimp [E99,hP,hd,hz,rdV]|apply aI|apply nI|intro
theorem adA:FO 99 asL:=pf b99 (.cons aui .nil)
noncomputable abbrev atN:aB:={asL with dec:=fun l=>aY asg (l.map (dn 8))}
theorem aul:FO 99 atN:=at0 _ adA
theorem asX(m t:Int):aY asg [.sl 8 [],.fn 271 [.ip 1 [[.int .i64 m]] 0 0,.ip 1 [[.int .i64 t]] 0 0]]=((m,t),[]):=asi (m,t) []
theorem asY(m t:Int)(l:List Fw):aY asg [.sl 8 (l.map Fw.row),.fn 271 [.ip 1 [[.int .i64 m]] 0 0,.ip 1 [[.int .i64 t]] 0 0]]=((m,t),l):=asi (m,t) l
theorem atG(f:Fl)(l:List Sr)(m t:Int):(E1 f l).any (rdP (m,t))=!GW f l m t:=by simp [E1,GW,List.any_map,Function.comp_def,rdP]
@[simp] def atg(d:(Fl × List Sr) × Int × Int):List V:=[plI d.1.1 d.1.2,.int .i64 d.2.1,.int .i64 d.2.2]
theorem ath(a b:(Fl × List Sr) × Int × Int)(h:atg a=atg b):a=b:=by obtain⟨⟨a1,a2⟩,a3,a4⟩:=a;obtain⟨⟨b1,b2⟩,b3,b4⟩:=b;simp only [atg,List.cons.injEq,V.int.injEq,true_and,and_true]at h;obtain⟨e1,e2⟩:=ar8 h.1;rw [e1,e2,h.2.1,h.2.2]
theorem ash(f:Fl)(l:List Sr)(m t:Int):aY atg [.ip 4 [plR f l] 0 0,.int .i64 m,.int .i64 t]=((f,l),m,t):=aA ath ((f,l),m,t)
noncomputable abbrev atH:aB:=bS atg (fun d=>d.1.2.length<=1000000) fun d=>.bool (GW d.1.1 d.1.2 d.2.1 d.2.2)
noncomputable abbrev asU:=EV [(99,.pure atN)] [] 22400 14 [(1,[4,5,50004,50005])]
theorem aur:af asU [] Tryz.f224 atH:=pb <| by
 rintro⟨⟨f,l⟩,m,t⟩ hl;have hl:l.length<=1000000:=hl;have hA:=atG f l m t;by_cases h0:l=[]
 ·subst h0;have hr:GW f [] m t=true:=by simp [GW]
  have hP:asR ((m,t),[]):=⟨by simp,trivial⟩
  have hd:=asX m t;simp -dsimp [Tryz.f224,asU,asv,aso];repeat' first|omega|simp -dsimp [asU,asv,aso,rdV,hd,hP,hr]|apply aI|apply nI|intro
 have hV:=ase (asJ (f:=f) h0);have hP:asR ((m,t),E1 f l):=⟨by simp only [ass];omega,trivial⟩
 have hd:=asY m t (E1 f l);cases hr:GW f l m t
 all_goals
  rw [hr]at hA;simp -dsimp [Tryz.f224,asU,hV];repeat' first|omega|simp -dsimp [asU,hV,rdV,hd,hP,hA,hr]|apply aI|apply nI|intro
theorem auc:FO 224 atH:=pf aur (.cons aul .nil)
def cvB(f:Fl)(l:List Sr)(b:Bk):Bool:=(List.range 2001).all fun t:Nat=>!(decide (b.lv<=t/\(t:Int)<b.hm)) || Nt f l t
theorem asr{f:Fl}{l:List Sr}{b:Bk}(h:b.hm<=2000):cvB f l b=true↔∀t:Nat,b.lv<=t->(t:Int)<b.hm->Nt f l t=true:=by
 unfold cvB;rw [List.all_eq_true];constructor
 ·intro k t h1 h2;have:=k t (by simp;omega);simpa [h1,h2]using this
 ·intro k t ht;by_cases c:b.lv<=(t:Int)/\(t:Int)<b.hm
  ·simp [k t c.1 c.2]
  ·simp [c]
theorem atI{f:Fl}{l:List Sr}{b:Bk}(h:b.hm<=2000){t:Nat}(h1:b.lv<=t)(h2:(t:Int)<b.hm)(h3:Nt f l t=false):cvB f l b=false:=by
 cases c:cvB f l b
 ·rfl
 ·rw [(asr h).1 c t h1 h2]at h3;cases h3
@[simp] def ati(d:(Fl × List Sr) × Bk):List V:=[plI d.1.1 d.1.2,.agg d.2.row]
theorem atj(a b:(Fl × List Sr) × Bk)(h:ati a=ati b):a=b:=by obtain⟨⟨a1,a2⟩,a3⟩:=a;obtain⟨⟨b1,b2⟩,b3⟩:=b;simp only [ati,List.cons.injEq,V.agg.injEq,and_true]at h;obtain⟨e1,e2⟩:=ar8 h.1;rw [e1,e2,Bk.aq _ _ h.2]
theorem as8(f:Fl)(l:List Sr)(b1 b2 b3 b4:Int):aY ati [.ip 4 [plR f l] 0 0,.agg [.int .i64 b1,.int .i64 b2,.int .i64 b3,.int .i64 b4]]=((f,l),⟨b1,b2,b3,b4⟩):=aA atj ((f,l),⟨b1,b2,b3,b4⟩)
structure CvP (d:(Fl × List Sr) × Bk):Prop where
 ok:gu d.1.1
 l:d.1.2.length<=1000
 lv:0<=d.2.lv
 hm:d.2.hm<=2000
 hu:d.2.hm<=d.1.1.gF
noncomputable abbrev atT:aB:=bS ati CvP fun d=>.bool (cvB d.1.1 d.1.2 d.2)
noncomputable abbrev aeh:=EV [(224,.pure atH)] [] 16100 55
theorem aoC:af aeh [] Tryz.f161 atT:=pb <| by
 rintro⟨⟨f,l⟩,⟨b1,b2,b3,b4⟩⟩ ⟨hf,hl,hv,hh,hu⟩;simp only at hf hl hv hh hu;have vd:l.length<=1000000:=by omega
 have hC:=asr (f:=f) (l:=l) (b:=⟨b1,b2,b3,b4⟩) hh;have zo:=fun t n h1 h2=>atI (f:=f) (l:=l) (b:=⟨b1,b2,b3,b4⟩) hh (t:=t) h1 h2 n;generalize cvB f l ⟨b1,b2,b3,b4⟩=C at *;have y7:=hf.JJ;have y8:=hf.rU;have zp:∃N:Nat,f.dU.length=N/\f.eH.ax=(N:Int):=⟨_,rfl,hf.dU.symm⟩
 obtain⟨N,hN,OT⟩:=zp;have vP:(f.gF<b3)=False:=eq_false (by omega);obtain⟨L0,rfl⟩:=Int.eq_ofNat_of_zero_le hv;have NG:(if 0<(L0:Int)then (L0:Int)else 0)=L0:=by split<;>omega
 have auD:(if 0<L0 then (L0:Int)else 0)=L0:=by split<;>omega
 simp -dsimp [Tryz.f161,aeh,Bk.row];repeat' first|omega|simp -dsimp [aeh,Bk.row,NG,auD]|apply aI|apply nI|intro
 refine ay [11,12,13,14,15,16,17,18,19,20,21,22,23,6,26,27,28,29,30,31,32,33,34,35,36,37,7,38,39,40,41,42,43,44,45,46,47,48,49,50,51,52,53,54,4,24,25,5] (fun t:{t:Nat // L0<=t/\t<=2000+L0/\∀i:Nat,L0<=i->i<t->Nt f l i=true}=>[(5,(true,.int .i64 t.1))]) (fun _=>hps [(16103,{base:=0,ah:=[{z:=4,els:=[[.int .i64 L0,.int .i64 b2,.int .i64 b3,.int .i64 b4]],ty:=111}]})] cg) (fun t=>2001+L0 - t.1) ⟨L0,by omega,by omega,fun i h1 h2=>by omega⟩ ?_ ?_ ?_
 ·simp [aj,aT]
 ·(try simp -dsimp only [hpx]);refine ai ?_;simp -dsimp [aC]<;>exact rz
 rintro⟨t,yb,ht,v1⟩;dsimp only;by_cases vV:(t:Int)<b3
 case neg=>
  have va:C=true:=hC.2 fun i h1 h2=>v1 i (by simp only at h1;omega) (by simp only at h2;omega);simp -dsimp [];repeat' first|omega|simp -dsimp [aeh,vP,vV,va]|apply aI|apply nI|intro
 have wt:=wx t;have hT:Nt f l t=decide (f.rU<=GX f l t N):=by rw [<-hN];rfl
 have vW:=fun n=>zo t n (by simp only;omega) vV;simp -dsimp [];repeat' first|omega|simp -dsimp [aeh,vP,vV,OT]|apply aI|apply nI|intro
 refine ay [36,37,7,38,39,40,41,42,43,6,44,35] (fun m:{m:Nat // m<=N}=>[(35,(true,.int .i64 m.1)),(6,(true,.int .i64 (GX f l t m.1)))]) (fun _=>_) (fun m=>N - m.1) ⟨0,by omega⟩ ?_ (bA.refl _) ?_
 ·simp [aj,aT,GX]
 rintro⟨m,hm⟩;dsimp only;have yc:=Su f l t m;by_cases jW:m<N
 ·have oh:(m:Int)<N:=by omega
  have wm:=wx m;have hR:GX f l t (m+1)=GX f l t m+if GW f l m t=true then 1 else 0:=rfl;generalize M3:GX f l t (m+1)=R1 at *;generalize GX f l t m=R0 at *;have wR:=wi (R0+1);cases vr:GW f l m t
  ·rw [vr,if_neg (by simp),Int.add_zero]at hR;simp -dsimp [oh];repeat' first|omega|simp -dsimp [aeh,oh,ash,vd,vr,wm]|apply aI|apply nI|intro
   refine⟨m+1,ag rfl ?_,bA.refl _,by omega,by omega⟩;simp [aj,aT,M3,hR]
  ·rw [vr,if_pos rfl]at hR;simp -dsimp [oh];repeat' first|omega|simp -dsimp [aeh,oh,ash,vd,vr,wR,wm]|apply aI|apply nI|intro
   refine⟨m+1,ag rfl ?_,bA.refl _,by omega,by omega⟩;simp [aj,aT,M3,hR]
 have vs:¬ (m:Int)<N:=by omega
 have zr:m=N:=by omega
 subst zr;rcases Classical.propComplete (GX f l t m<f.rU)with c|c
 ·have c':=of_eq_true c;have vW:=vW (by rw [hT];exact decide_eq_false (by omega));simp -dsimp [vs];repeat' first|omega|simp -dsimp [aeh,vs,c,vW]|apply aI|apply nI|intro
 ·have c':=of_eq_false c;have va:Nt f l t=true:=by rw [hT];exact decide_eq_true (by omega)
  simp -dsimp [vs];repeat' first|omega|simp -dsimp [aeh,vs,c,wt]|apply aI|apply nI|intro
  refine⟨t+1,?_,bA.refl _,⟨by omega,by omega,fun i h1 h2=>?_⟩,by omega⟩
  ·refine cq (aN rfl (br rfl (aN rfl bO))) ?_;simp [aj,aT]
  ·by_cases e:i=t
   ·subst e;exact va
   ·exact v1 i h1 (by omega)
theorem Ua:FO 161 atT:=pf aoC (.cons auc .nil)
@[simp] def asZ(d:(Fl × List Sr) × Int × Int × Bk):List V:=[plI d.1.1 d.1.2,.int .i64 d.2.1,.int .i64 d.2.2.1,.agg d.2.2.2.row]
theorem atk(a b:(Fl × List Sr) × Int × Int × Bk)(h:asZ a=asZ b):a=b:=by obtain⟨⟨a1,a2⟩,a3,a4,a5⟩:=a;obtain⟨⟨b1,b2⟩,b3,b4,b5⟩:=b;simp only [asZ,List.cons.injEq,V.int.injEq,V.agg.injEq,true_and,and_true]at h;obtain⟨e1,e2⟩:=ar8 h.1;rw [e1,e2,h.2.1,h.2.2.1,Bk.aq _ _ h.2.2.2]
theorem ar7(f:Fl)(l:List Sr)(j m b1 b2 b3 b4:Int):aY asZ [.ip 4 [plR f l] 0 0,.int .i64 j,.int .i64 m,.agg [.int .i64 b1,.int .i64 b2,.int .i64 b3,.int .i64 b4]]=((f,l),j,m,⟨b1,b2,b3,b4⟩):=aA atk ((f,l),j,m,⟨b1,b2,b3,b4⟩)
def as0(f:Fl)(m:Nat):Int:=f.lz.getD m 0
structure ClP (d:(Fl × List Sr) × Int × Int × Bk):Prop where
 jm:Xa (d.1.1,d.2.1,d.2.2.1)
noncomputable abbrev at2:aB:=bS asZ ClP fun d=>.agg [.int .i64 d.2.2.2.lv,.int .i64 d.2.2.2.hm,.int .i64 (as0 d.1.1 d.2.2.1.toNat),.bool (fP d.1.1 d.2.1.toNat).AW]
noncomputable abbrev atl:=EV [] [] 15800 37 [(1,[7,50007])]
theorem auF:af atl [] Tryz.f158 at2:=pb <| by
 rintro⟨⟨f,l⟩,j,m,⟨b1,b2,b3,b4⟩⟩ ⟨⟨hK,hj,hm⟩⟩;simp only at hK hj hm;have hf:=hK.ok;obtain⟨j,rfl⟩:=Int.eq_ofNat_of_zero_le hj.1;obtain⟨m,rfl⟩:=Int.eq_ofNat_of_zero_le hm.1;have vX:j<f.jobs.length:=by omega
 have jW:m<f.lz.length:=by have:=hf.lz;have:=hf.dU;omega
 have zs:(j:Int)<f.jobs.length:=by omega
 have oh:(m:Int)<f.lz.length:=by omega
 obtain⟨x,hx,hx'⟩:=gx vX;have Rl:fP f j=x:=by simp [fP,List.getD,hx]
 obtain⟨cr,GY,SH⟩:=gx jW;have zt:as0 f m=cr:=by simp [as0,List.getD,GY]
 simp -dsimp [Tryz.f158,atl,Bk.row];repeat' first|omega|simp -dsimp [atl,hx,hx',Rl,zt,GY,SH,vX,jW,zs,oh,Jb.row,Bk.row,aS,cQ]|apply aI|apply nI|intro
theorem auj:FO 158 at2:=pf auF .nil
structure CwP (d:(Fl × List Sr) × Int × Int × Bk):Prop where
 jm:Xa (d.1.1,d.2.1,d.2.2.1)
 g:Good d.1.1 true d.1.2
 q:zZ d.1.1 d.2.1.toNat d.2.2.1.toNat=true
 b:d.2.2.2=jJ d.1.1 d.2.1.toNat d.2.2.1.toNat
noncomputable abbrev atY:aB:=bS asZ CwP fun d=>.sl 2 ((cwL d.1.1 d.1.2 d.2.1.toNat d.2.2.1.toNat).map Tk)
noncomputable abbrev ae5:=EV [(158,.pure at2),(157,.pure adL)] [] 10200 35 [(1,[7,50007])]
theorem apo:af ae5 [] Tryz.f102 atY:=pb <| by
 rintro⟨⟨f,l⟩,j,m,b⟩ ⟨hJ,hG,hq,hb⟩;have hK:=hJ.ok;have hj:=hJ.j;have hm:=hJ.m;simp only at hK hj hm hG hq hb;have hf:=hK.ok;have hz:=hG.iV hf;have yg:=qB f l;have Ip:=hf.dul;have Ik:=abD hf;have vd:=hG.atw;have zv:=hf.jobs;have z3:=hf.bk (j:=j.toNat) (m:=m.toNat) (by omega) (by omega) hq;have v5:cwL f l j.toNat m.toNat=if jx ⟨b.lv,b.hm,as0 f m.toNat,(fP f j.toNat).AW⟩=true then tF f.gv (j9 f l) ⟨b.lv,b.hm,as0 f m.toNat,(fP f j.toNat).AW⟩else []:=by subst hb;rfl
 rw [<-hb]at z3;have z4:ClP ((f,l),j,m,b):=⟨hJ⟩
 generalize cwL f l j.toNat m.toNat=L at *;generalize hC:as0 f m.toNat=C at *;generalize hW:(fP f j.toNat).AW=W at *;clear hb;obtain⟨b1,b2,b3,b4⟩:=b;simp only at z3 v5;have z5:=Gj f.gv (j9 f l) b1 b3 C W;have z6:CrP (f.gv,j9 f l,⟨b1,b3,C,W⟩):=⟨by simp only;omega,by simp only;omega⟩
 cases hc:jx ⟨b1,b3,C,W⟩
 ·have hO:=atA hz hc ⟨by simp only;omega,by simp only;omega⟩;rw [hc]at v5;have v5:L=[]:=v5;simp -dsimp [Tryz.f102,ae5,Bk.row];repeat' first|omega|simp -dsimp [ae5,Bk.row,ar7,z4,hC,hW,z5,z6,hO,v5,aS,cQ]|apply aI|apply nI|intro
 ·have hO:=Ya hz hc;rw [hc,if_pos rfl]at v5;rw [<-v5]at hO;simp -dsimp [Tryz.f102,ae5,Bk.row];repeat' first|omega|simp -dsimp [ae5,Bk.row,ar7,z4,hC,hW,z5,z6,hO,aS,cQ]|apply aI|apply nI|intro
theorem aks:FO 102 atY:=pf apo (.cons auj (.cons aub .nil))
@[simp] def atm(d:(Fl × List Sr) × Int × Int × Bool):List V:=[plI d.1.1 d.1.2,.int .i64 d.2.1,.int .i64 d.2.2.1,.bool d.2.2.2]
theorem atn(a b:(Fl × List Sr) × Int × Int × Bool)(h:atm a=atm b):a=b:=by obtain⟨⟨a1,a2⟩,a3,a4,a5⟩:=a;obtain⟨⟨b1,b2⟩,b3,b4,b5⟩:=b;simp only [atm,List.cons.injEq,V.int.injEq,V.bool.injEq,true_and,and_true]at h;obtain⟨e1,e2⟩:=ar8 h.1;rw [e1,e2,h.2.1,h.2.2.1,h.2.2.2]
theorem asf(f:Fl)(l:List Sr)(j m:Int)(w:Bool):aY atm [.ip 4 [plR f l] 0 0,.int .i64 j,.int .i64 m,.bool w]=((f,l),j,m,w):=aA atn ((f,l),j,m,w)
structure FtP (d:(Fl × List Sr) × Int × Int × Bool):Prop where
 jm:Xa (d.1.1,d.2.1,d.2.2.1)
 g:Good d.1.1 true d.1.2
noncomputable abbrev atX:aB:=bS atm FtP fun d=>.dB [.agg (D5 d.1.1 d.2.1.toNat d.2.2.1.toNat).row,.bool (ftB d.1.1 d.1.2 d.2.1.toNat d.2.2.1.toNat d.2.2.2)]
structure Ft2 where
 k:Nat
 A:Int
def ftS(b1 b2 b3 b4:Int):Site:={base:=0,ah:=[{z:=4,els:=[[.int .i64 b1,.int .i64 b2,.int .i64 b3,.int .i64 b4]],ty:=111}]}
noncomputable abbrev aeM:=EV [(39,.pure Xb),(153,.pure y9.orS)] [] 10100 110
theorem apd:af aeM [(15,([7,10,12,13],[[0,1,2,3,4,5,6,7,8,9,10,11,12,13,14,15,16,17]]))] Tryz.f101 atX:=pb <| by
 rintro⟨⟨f,l⟩,j,m,w⟩ ⟨hJ,hG⟩;have hK:=hJ.ok;have hj:=hJ.j;have hm:=hJ.m;simp only at hK hj hm hG hJ;have hf:=hK.ok;have vd:=hG.atw;have zv:=hf.jobs;have yh:=hf.turn;have vP:=hf.gF;have H8:=hG.sr;obtain⟨j,rfl⟩:=Int.eq_ofNat_of_zero_le hj.1;obtain⟨m,rfl⟩:=Int.eq_ofNat_of_zero_le hm.1;simp only [Int.toNat_natCast];have vX:j<f.jobs.length:=by omega
 have jW:m<f.dU.length:=by omega
 have z7:CnP (f,(j:Int),(m:Int),w):=⟨hJ⟩
 have hT:ftB f l j m w=((jR f j m && (w || DY f j m)) && !(l.any (Pf f (E0 j m (0,0)))) && decide ((ew f (E0 j m (0,0))).mD+fA f m l<=qP f m * f.hour)):=rfl;have zE:ew f (E0 j m (0,0))=jJ f j m:=rfl;have vx:=ad3 hf m;have ac0:rR f f.eH.ax.toNat≠[]:=fun h=>by have:=congrArg List.length h;rw [nB,hf.Np,List.length_nil]at this;omega
 have z8:Cv (rR f f.eH.ax.toNat)=.sl 1 ((rR f f.eH.ax.toNat).map ri):=by rw [Cv,if_neg ac0]
 have yi:(rR f f.eH.ax.toNat).length=f.dU.length:=by rw [nB,hf.Np]
 have XZ:(rR f f.eH.ax.toNat)[m]?=some (Ai f m):=by rw [hf.Np];simp [rR,jW]
 have C5:∀h,(rR f f.eH.ax.toNat)[m]'h=Ai f m:=fun h=>by rw [List.getElem?_eq_getElem h]at XZ;exact Option.some.inj XZ
 have z0:m<(rR f f.eH.ax.toNat).length:=by omega
 have R9:(m:Int)<(rR f f.eH.ax.toNat).length:=by omega
 have C5:=C5 z0;have hlen:=ass f l;have aL:=fun k x (h:l[k]?=some x)=>atD (f:=f) h;have z9:∀k:Nat,k<l.length->asd (E1 f l)=.sl 8 ((E1 f l).map Fw.row):=fun k hk=>ase (asJ fun e=>by rw [e]at hk;simp at hk);have za:(asd (E1 f l)).len=some l.length:=by
  by_cases h0:l=[]
  ·subst h0;rfl
  ·rw [ase (asJ h0)];simp [hlen]
 cases hI:(jR f j m && (w || DY f j m))
 ·rw [hI]at hT;have hT:ftB f l j m w=false:=hT;generalize hB:D5 f j m=B at *;obtain⟨b1,b2,b3,b4⟩:=B;simp -dsimp [Tryz.f101,aeM,Bk.row];repeat' first|omega|simp -dsimp [aeM,Bk.row,Em,z7,hI,hB,za]|apply aI|apply nI|intro
  generalize E1 f l=LF at *;generalize asd LF=VV at *;refine ay [32,33,34,12,36,37,38,39,40,35,41,9,43,44,45,46,47,48,49,50,51,52,53,54,55,56,57,58,59,60,61,62,63,64,42,65,67,68,69,70,71,72,73,74,75,76,77,78,79,80,66,81,83,84,85,86,87,82,88,89,90,91,92,10,93,31] (fun p:{p:Ft2 // p.k<=l.length}=>[(31,(true,.int .i64 p.1.k)),(9,(true,.bool false)),(10,(true,.int .i64 p.1.A))]) (fun p=>hps [(10112,{base:=p.1.k,ah:=[]}),(10108,ftS b1 b2 b3 b4)] cg) (fun p=>l.length - p.1.k) ⟨⟨0,b4⟩,by simp⟩ ?_ ?_ ?_
  ·simp [aj,aT]
  ·(try simp -dsimp only [hpx]);refine ai ?_;simp -dsimp [aC,ftS]<;>exact rz
  rintro⟨⟨k,A⟩,hk⟩;dsimp only at hk ⊢;by_cases aH:k<l.length
  case neg=>
   have v4:¬ (k:Int)<l.length:=(by omega);simp -dsimp [v4,ftS];repeat' first|omega|simp -dsimp [aeM,v4,hT,z8,z0,R9,XZ,C5,ri,aS,cQ]|apply aI|apply nI|intro
  have v0:(k:Int)<l.length:=by omega
  have wk:=wx k;obtain⟨x,hx⟩:∃x,l[k]?=some x:=⟨_,List.getElem?_eq_getElem aH⟩
  have hg:=aL k x hx;have v3:k<LF.length:=by omega
  have hg':LF[k]=⟨x,ew f x⟩:=(List.getElem?_eq_some_iff.1 hg).2;have hV:=z9 k aH;have iB:(k:Int)<LF.length:=by omega
  generalize ew f x=X at *;obtain⟨x1,x2,x3,x4⟩:=x;obtain⟨y1,y2,y3,y4⟩:=X;simp -dsimp [v0,ftS];repeat' first|omega|simp -dsimp [aeM,v0,iB,v3,hV,hg,hg',Fw.row,wk,hT,y9.Z2,aS,cQ]|apply aI|apply nI|intro
  ·refine⟨⟨k+1,IntKind.wrap .i64 (A+y4)⟩,ag rfl ?_,?_,by simp only;omega,by simp only;omega⟩
   ·simp [aj,aT]
   ·(try simp -dsimp only [hpx]);refine ai ?_;simp -dsimp [aC,ftS]<;>exact rz
  ·refine⟨⟨k+1,A⟩,ag rfl ?_,?_,by simp only;omega,by simp only;omega⟩
   ·simp [aj,aT]
   ·(try simp -dsimp only [hpx]);refine ai ?_;simp -dsimp [aC,ftS]<;>exact rz
 rw [hI,Bool.true_and]at hT;rw [Bool.and_eq_true]at hI;obtain⟨vb,_⟩:=id hI;have hI:(jR f j m && (w || DY f j m))=true:=by rw [Bool.and_eq_true];exact hI
 obtain⟨hq,auH,_,_,auI⟩:=hf.ticks (by omega) (by omega) vb;have zK:=(hf.bk (j:=j) (m:=m) (by omega) (by omega) hq).2.2;have zY:0<=qP f m:=by simp only [jR,Bool.and_eq_true,decide_eq_true_eq]at vb;exact vb.2
 have vx:=vx.2.2.2 zY;have hO:=uJ hq;have cZ:∀x:Sr,Pf f (E0 j m (0,0)) x=(decide (x.j=(j:Int)) || decide (x.m=(m:Int)/\(jJ f j m).lv<(ew f x).hm+f.turn) || decide ((jJ f j m).lv<(ew f x).lv) || decide ((jJ f j m).lv=(ew f x).lv/\(j:Int)<x.j)):=fun x=>rfl;rw [zE]at hT;generalize Pf f (E0 j m (0,0))=cl at *;generalize jJ f j m=B at *;obtain⟨b1,b2,b3,b4⟩:=B;simp only at hT auH auI zK cZ;have l7:∀(k:Nat) (x:Sr),l[k]?=some x->cl x=true->ftB f l j m w=false:=fun k x hx h=>by have:l.any cl=true:=List.any_eq_true.2 ⟨x,List.mem_of_getElem? hx,h⟩;rw [hT,this];rfl
 rw [<-vx]at hT;clear vx;generalize Ai f m=LM at *;simp -dsimp [Tryz.f101,aeM,Bk.row];repeat' first|omega|simp -dsimp [aeM,Bk.row,Em,z7,hI,hO,za]|apply aI|apply nI|intro
 generalize E1 f l=LF at *;generalize asd LF=VV at *;refine ay [32,33,34,12,36,37,38,39,40,35,41,9,43,44,45,46,47,48,49,50,51,52,53,54,55,56,57,58,59,60,61,62,63,64,42,65,67,68,69,70,71,72,73,74,75,76,77,78,79,80,66,81,83,84,85,86,87,82,88,89,90,91,92,10,93,31] (fun k:{k:Nat // k<=l.length/\∀x∈l.take k,cl x=false}=>[(31,(true,.int .i64 k.1)),(9,(true,.bool true)),(10,(true,.int .i64 (b4+fA f m (l.take k.1))))]) (fun k=>hps [(10112,{base:=k.1,ah:=[]}),(10108,ftS b1 b2 b3 b4)] cg) (fun k=>l.length - k.1) ⟨0,by omega,by simp⟩ ?_ ?_ ?_
 ·simp [aj,aT,fA]
 ·(try simp -dsimp only [hpx]);refine ai ?_;simp -dsimp [aC,ftS]<;>exact rz
 rintro⟨k,hk,v1⟩;dsimp only;have yj:=xz hf (m:Int) (l:=l.take k) fun x hx=>H8 x (List.mem_of_mem_take hx);have yk:(l.take k).length<=6:=by simp;omega
 by_cases aH:k<l.length
 case neg=>
  have v4:¬ (k:Int)<l.length:=by omega
  have y0:k=l.length:=by omega
  subst y0;rw [List.take_length]at v1 ⊢;have af3:l.any cl=false:=List.any_eq_false.2 fun x hx=>by rw [v1 x hx];simp
  rw [af3,Bool.not_false,Bool.true_and]at hT;rcases Classical.propComplete (b4+fA f m l<=LM)with c|c
  all_goals
   simp only [c,decide_true,decide_false]at hT;simp -dsimp [v4,ftS];repeat' first|omega|simp -dsimp [aeM,v4,hT,hO,Bk.row,z8,z0,R9,XZ,C5,ri,c,aS,cQ]|apply aI|apply nI|intro
 have v0:(k:Int)<l.length:=by omega
 have wk:=wx k;obtain⟨x,hx⟩:∃x,l[k]?=some x:=⟨_,List.getElem?_eq_getElem aH⟩
 have hg:=aL k x hx;have v3:k<LF.length:=by omega
 have hg':LF[k]=⟨x,ew f x⟩:=(List.getElem?_eq_some_iff.1 hg).2;have hV:=z9 k aH;have iB:(k:Int)<LF.length:=by omega
 have y5:x∈l:=List.mem_of_getElem? hx;have vy:=H8 x y5;have y6:=vy.bk hf;have YK:=vy.j.1;have auJ:=vy.lv;have auK:=vy.hm;have z1:=l7 k x hx;have v7:=cZ x;have sQ:cl x=false->∀y∈l.take (k+1),cl y=false:=fun h=>ug hx v1 h;have hA:=Nh (f:=f) (m:=(m:Int)) hx;generalize yB:fA f m (l.take (k+1))=A1 at *;generalize fA f m (l.take k)=A0 at *;generalize ew f x=X at *;obtain⟨x1,x2,x3,x4⟩:=x;obtain⟨y1,y2,y3,y4⟩:=X;simp only at y6 YK auJ auK v7 hA;obtain⟨D1,w2⟩:∃D,IntKind.wrap .i64 (b1 - y1)=D:=⟨_,rfl⟩
 obtain⟨D2,w3⟩:∃D,IntKind.wrap .i64 ((j:Int) - x1)=D:=⟨_,rfl⟩
 obtain⟨O,v9⟩:∃O,(if D1=0 then D2 else D1)=O:=⟨_,rfl⟩
 have w2':D1=b1 - y1:=by rw [<-w2];exact aK (by omega) (by omega)
 have w3':D2=(j:Int) - x1:=by rw [<-w3];exact aK (by omega) (by omega)
 have z2:O<0↔b1<y1\/(b1=y1/\(j:Int)<x1):=by rw [<-v9];split<;>omega
 have w1:=wi (y3+f.turn);have wA:=wi (b4+A0+y4);rcases Classical.propComplete (x1=(j:Int))with v8|v8
 ·have h1:(x1 == (j:Int))=true:=by simpa using of_eq_true v8
  have v6:=z1 (by rw [v7];simp [v8]);simp -dsimp [v0,ftS];repeat' first|omega|simp -dsimp [aeM,v0,iB,v3,hV,hg,hg',Fw.row,Bk.row,hO,y9.Z2,aS,cQ,h1,v6]|apply aI|apply nI|intro
 have h1:(x1 == (j:Int))=false:=by simpa using of_eq_false v8
 rcases Classical.propComplete (O<0)with c4|c4
 case inl=>
  have v6:=z1 (by
   rw [v7];rcases z2.1 (of_eq_true c4)with g|g
   ·simp [g]
   ·simp [g.1,g.2])
  rcases Classical.propComplete (x2=(m:Int))with v2|v2
  ·have h2:(x2 == (m:Int))=true:=(by simpa using of_eq_true v2);rcases Classical.propComplete (b1<y3+f.turn)with c3p|c3p
   ·simp -dsimp [v0,ftS];repeat' first|omega|simp -dsimp [aeM,v0,iB,v3,hV,hg,hg',Fw.row,Bk.row,hO,y9.Z2,aS,cQ,h1,h2,w1,c3p,v6]|apply aI|apply nI|intro
   ·simp -dsimp [v0,ftS];repeat' first|omega|simp -dsimp [aeM,v0,iB,v3,hV,hg,hg',Fw.row,Bk.row,hO,y9.Z2,aS,cQ,h1,h2,w1,c3p,w2,w3,v9,c4,v6]|apply aI|apply nI|intro
  ·have h2:(x2 == (m:Int))=false:=(by simpa using of_eq_false v2);simp -dsimp [v0,ftS];repeat' first|omega|simp -dsimp [aeM,v0,iB,v3,hV,hg,hg',Fw.row,Bk.row,hO,y9.Z2,aS,cQ,h1,h2,w2,w3,v9,c4,v6]|apply aI|apply nI|intro
 have c4':¬ O<0:=of_eq_false c4;have c4p:(b1<y1)=False:=eq_false fun g=>c4' (z2.2 (.inl g));have c5p:(b1=y1/\(j:Int)<x1)=False:=eq_false fun g=>c4' (z2.2 (.inr g));rcases Classical.propComplete (x2=(m:Int))with v2|v2
 ·have h2:(x2 == (m:Int))=true:=by simpa using of_eq_true v2
  rw [if_pos (of_eq_true v2)]at hA;rcases Classical.propComplete (b1<y3+f.turn)with c3p|c3p
  ·have v6:=z1 (by rw [v7];simp [v2,c3p]);simp -dsimp [v0,ftS];repeat' first|omega|simp -dsimp [aeM,v0,iB,v3,hV,hg,hg',Fw.row,Bk.row,hO,y9.Z2,aS,cQ,h1,h2,w1,c3p,v6]|apply aI|apply nI|intro
  ·have hA':b4+A1=b4+A0+y4:=(by omega);simp -dsimp [v0,ftS];repeat' first|omega|simp -dsimp [aeM,v0,iB,v3,hV,hg,hg',Fw.row,Bk.row,hO,y9.Z2,aS,cQ,h1,h2,w1,c3p,w2,w3,v9,c4,wA,wk]|apply aI|apply nI|intro
   refine⟨k+1,cq (aN rfl bO) ?_,?_,⟨by omega,sQ (by rw [v7];simp only [v8,v2,c3p,c4p,c5p,true_and,false_and,and_false,decide_false,Bool.or_false])⟩,by omega⟩
   ·simp [aj,aT,yB,hA']
   ·(try simp -dsimp only [hpx]);refine ai ?_;simp -dsimp [aC,ftS]<;>exact rz
 ·have h2:(x2 == (m:Int))=false:=by simpa using of_eq_false v2
  rw [if_neg (of_eq_false v2),Int.add_zero]at hA;simp -dsimp [v0,ftS];repeat' first|omega|simp -dsimp [aeM,v0,iB,v3,hV,hg,hg',Fw.row,Bk.row,hO,y9.Z2,aS,cQ,h1,h2,w2,w3,v9,c4,wk]|apply aI|apply nI|intro
  refine⟨k+1,cq (aN rfl bO) ?_,?_,⟨by omega,sQ (by rw [v7];simp only [v8,v2,c4p,c5p,false_and,and_false,decide_false,Bool.or_false])⟩,by omega⟩
  ·simp [aj,aT,yB,hA]
  ·(try simp -dsimp only [hpx]);refine ai ?_;simp -dsimp [aC,ftS]<;>exact rz
theorem ako:FO 101 atX:=pf apd (.cons abS (.cons y9.aiu .nil))
end Go.Sx
end
end
