/- A part of a proof; no conditions. -/
import Derived.Test.YtegiclpanpmkdaaGreatDoorR08
import Derived.Test.YtegiclpanpmkdaaGreatDoorR10
set_option linter.all false
set_option maxRecDepth 100000
set_option maxHeartbeats 8000000
noncomputable section
section
namespace Go.Sx
open Go.Proofs
attribute [local simp] ri aa ints
noncomputable abbrev adW:=EV [] [] 14800 15
theorem aoe:af adW [] Tryz.f148 bF:=pb <| by rintro⟨n,lo,hi⟩ _;simp -dsimp [Tryz.f148,adW,au];repeat' first|omega|simp -dsimp [adW,au]|apply aI|apply nI|intro
theorem abt:FO 148 bF:=pf aoe .nil
abbrev Ml(f:Int->Bool):aB:={dom:=Int,enc:=fun d=>[.int .i64 d],dec:=fun l=>(l.getD 0 .top).toInt,pre:=fun _=>True,res:=fun d=>.bool (f d)}
abbrev Mm:aB:=Ml fun n=>au n 0 2000
noncomputable abbrev ayz:=EV [(148,.pure bF)] [] 21000 5
theorem azO:af ayz [] Tryz.f210 Mm:=pb <| by rintro n _;simp -dsimp [Tryz.f210,ayz];repeat' first|omega|simp -dsimp [ayz, *]|apply aI|apply nI|intro
theorem ayc:FO 210 Mm:=pf azO (.cons abt .nil)
noncomputable abbrev ayA:=EV [(148,.pure bF)] [] 21100 5
theorem azP:af ayA [] Tryz.f211 (Ml fun n=>au n 1 2000):=pb <| by rintro n _;simp -dsimp [Tryz.f211,ayA];repeat' first|omega|simp -dsimp [ayA, *]|apply aI|apply nI|intro
theorem azg:dM Tryz.prog 211 (.pure (Ml fun n=>au n 1 2000)):=pf azP (.cons abt .nil)
abbrev SD:aB:={dom:=Int × Int,enc:=fun d=>[.int .i64 d.1,.int .i64 d.2],dec:=fun l=>((l.getD 0 .top).toInt,(l.getD 1 .top).toInt),pre:=fun _=>True,res:=fun d=>.bool (tH d.1 d.2)}
noncomputable abbrev pR:=EV [(148,.pure bF)] [] 14900 13
theorem anq:af pR [] Tryz.f149 SD:=pb <| by rintro⟨a,b⟩ _;have e:tH a b=(au a 0 (wr (b - 1)) && decide (b<=2000)):=rfl;simp -dsimp [Tryz.f149,pR,e,wr]
theorem ais:FO 149 SD:=pf anq (.cons abt .nil)
@[simp] def pnE(p:Pn):List V:=[.agg p.row]
theorem aaD(a b:Pn)(h:pnE a=pnE b):a=b:=Pn.aq _ _ (by simpa using h)
theorem Mo(p:Pn):aY pnE [.agg [.int .i64 p.rat,.int .i64 p.qV,.int .i64 p.mW]]=p:=aA aaD p
def Pn.bad(p:Pn):Bool:=!p.ok
noncomputable abbrev pnS:aB:=bS pnE (fun _=>True) fun p=>.bool p.bad
theorem alm(p:Pn):p.bad=!(au p.rat 0 255 && au p.qV 0 3 && au p.mW 0 2000):=rfl
noncomputable abbrev azh:=EV [(148,.pure bF),(210,.pure Mm)] [] 20900 19
theorem azQ:af azh [] Tryz.f209 pnS:=pb <| by rintro⟨a,b,c⟩ _;simp -dsimp [Tryz.f209,azh,alm,Pn.row]
theorem azi:FO 209 pnS:=pf azQ (.cons abt (.cons ayc .nil))
@[simp] def OE(d:List Pn):List V:=[.sl 3 (d.map Pn.row),.fn 209 []]
theorem VR(a b:List Pn)(h:OE a=OE b):a=b:=by simp only [OE,List.cons.injEq,V.sl.injEq,true_and,and_true]at h;exact aR Pn.aq h
theorem zT(l:List Pn):aY OE [.sl 3 (l.map Pn.row),.fn 209 []]=l:=aA VR l
noncomputable abbrev VS:aB:=bS OE (fun d=>d.length<=100000000000000) fun d=>.int .i64 (eB d Pn.bad)
noncomputable abbrev VT:aB:=bS OE (fun d=>d.length<=100000000000000) fun d=>.bool (d.any Pn.bad)
noncomputable abbrev awO:=EV [(209,.pure pnS)] [] 26700 19
theorem azR:af awO [] Tryz.f267 VS:=pb <| by
 rintro l hl;have hl:l.length<=100000000000000:=hl;simp -dsimp [Tryz.f267,awO];refine ay [9,10,5,11,12,13,14,15,16,17,4,18,8] (fun k:{k:Nat // k<=l.length/\∀j (h:j<l.length),j<k->Pn.bad l[j]=false}=>[(8,(true,.int .i64 k.1))]) (fun _=>cg) (fun k=>l.length - k.1) ⟨0,by omega,fun _ _ h=>by omega⟩ ?_ (bA.refl _) ?_
 ·simp [aj,aT]
 rintro⟨k,hk,v0⟩;by_cases aH:k<l.length
 ·have v1:(k:Int)<l.length:=by omega
  have wk:=wx k;cases hw:Pn.bad l[k]
  ·simp -dsimp [v1];repeat' first|omega|simp -dsimp [awO,v1,aH,hl,hw,wk,Pn.row,Mo]|apply aI|apply nI|intro
   refine⟨k+1,ag rfl ?_,bA.refl _,⟨by omega,fun j h hj=>?_⟩,by omega⟩
   ·simp [aj,aT]
   ·by_cases v4:j=k
    ·subst v4;exact hw
    ·exact v0 j h (by omega)
  ·have hz:=cW l Pn.bad aH hw v0;simp -dsimp [v1];repeat' first|omega|simp -dsimp [awO,v1,aH,hl,hw,wk,hz,Pn.row,Mo]|apply aI|apply nI|intro
 ·have v2:¬ (k:Int)<l.length:=by omega
  have hz:=bP l Pn.bad (fun j h=>v0 j h (by omega));simp -dsimp [v2];repeat' first|omega|simp -dsimp [awO,v2,hz]|apply aI|apply nI|intro
theorem azj:FO 267 VS:=pf azR (.cons azi .nil)
noncomputable abbrev ayB:=EV [(267,.pure VS)] [] 21200 9
theorem azS:af ayB [] Tryz.f212 VT:=pb <| by rintro l hl;have hl:l.length<=100000000000000:=hl;have hz:=cO l Pn.bad;simp -dsimp [Tryz.f212,ayB];repeat' first|omega|simp -dsimp [ayB,hl,zT,hz]|apply aI|apply nI|intro
theorem azk:FO 212 VT:=pf azS (.cons azj .nil)
@[simp] def roE(r:Ro):List V:=[.agg r.row]
theorem aaE(a b:Ro)(h:roE a=roE b):a=b:=Ro.aq _ _ (by simpa using h)
theorem iw(r:Ro):aY roE [.agg [.sl 3 (r.bM.map Pn.row),.int .i64 r.lY,.int .i64 r.fN,.int .i64 r.win,.int .i64 r.tot,.int .i64 r.iW]]=r:=aA aaE r
noncomputable abbrev NS:aB:=bS roE (fun d=>d.bM.length<=100000000000000) fun d=>.int .i64 (if d.ok=true then 0 else 100)
theorem alo(r:Ro):r.ok=(decide (r.bM.length<=12) && !(r.bM.any Pn.bad) && au r.lY 1 2000 && au r.fN 0 2000 && au r.win 1 2000 && au r.iW 1 2000 && au r.tot 1 r.win):=by
 have h:r.bM.all Pn.ok=!(r.bM.any Pn.bad):=by rw [List.not_any_eq_all_not];congr 1;funext p;simp [Pn.bad]
 rw [Ro.ok,h];rfl
noncomputable abbrev adZ:=EV [(148,.pure bF),(210,.pure Mm),(211,.pure (Ml fun n=>au n 1 2000)),(212,.pure VT)] [] 14700 50
theorem aog:af adZ [] Tryz.f147 NS:=pb <| by
 rintro r hl;have hl:r.bM.length<=100000000000000:=hl;have hr:=alo r;generalize hA:r.bM.any Pn.bad=a at hr;generalize h2:au r.lY 1 2000=b at hr;generalize h3:au r.fN 0 2000=c at hr;generalize h4:au r.win 1 2000=d at hr;generalize h5:au r.iW 1 2000=e at hr;generalize h6:au r.tot 1 r.win=f at hr;by_cases h0:r.bM.length<=12
 ·have e0:((12:Int)<r.bM.length)=False:=eq_false (by omega);have e1:(r.bM.length<=12)=True:=eq_true h0;simp -dsimp only [e1,decide_true,Bool.true_and]at hr;simp -dsimp [Tryz.f147,adZ,Ro.row,bp];repeat' first|omega|simp -dsimp [adZ,e0,hA,hl,zT,h2,h3,h4,h5,h6,hr]|apply aI|apply nI|intro
  all_goals (clear hr hA h2 h3 h4 h5 h6 hl;cases a<;>cases b<;>cases c<;>cases d<;>cases e<;>cases f<;>simp_all)
 ·have e0:((12:Int)<r.bM.length)=True:=eq_true (by omega);have e1:(r.bM.length<=12)=False:=eq_false h0;simp -dsimp only [e1,decide_false,Bool.false_and]at hr;simp -dsimp [Tryz.f147,adZ,Ro.row,bp];repeat' first|omega|simp -dsimp [adZ,e0,hA,hl,zT,hr]|apply aI|apply nI|intro
theorem aju:FO 147 NS:=pf aog (.cons abt (.cons ayc (.cons azg (.cons azk .nil))))
def bX(r:Ro)(o:List Du):List V:=[.sl 3 (r.bM.map Pn.row),.int .i64 r.lY,.int .i64 r.fN,.int .i64 r.win,.int .i64 r.tot,.int .i64 r.iW,.sl 3 (o.map Du.row)]
theorem jF{r r':Ro}{o o':List Du}(h:bX r o=bX r' o'):r=r'/\o=o':=by cases r;cases r';simp only [bX,List.cons.injEq,V.sl.injEq,V.int.injEq,true_and,and_true]at h;obtain⟨h1,h2,h3,h4,h5,h6,h7⟩:=h;rw [aR Pn.aq h1,h2,h3,h4,h5,h6,aR Du.aq h7];exact⟨rfl,rfl⟩
inductive kN where
 | Mp (n:Int)
 | fN (r:Ro) (o:List Du) (x:Du)
 | iW (r:Ro) (o:List Du) (x:Du)
instance:Inhabited kN:=⟨.Mp 0⟩
def kN.v:kN->V
 | .Mp n=>.fn 214 [aa n]
 | .fN r o x=>.fn 217 [.ip 7 [bX r o] 0 0,.ip 3 [x.row] 0 0]
 | .iW r o x=>.fn 270 [.ip 3 [x.row] 0 0,.ip 7 [bX r o] 0 0]
theorem kN.qZ(a b:kN)(h:a.v=b.v):a=b:=by
 cases a<;>cases b<;>simp only [kN.v,aa,V.fn.injEq,List.cons.injEq,V.ip.injEq,V.int.injEq,true_and,and_true]at h
 ·rw [h]
 ·exact absurd h.1 (by decide)
 ·exact absurd h.1 (by decide)
 ·exact absurd h.1 (by decide)
 ·obtain⟨h1,h2⟩:=h;obtain⟨rfl,rfl⟩:=jF h1;obtain rfl:=Du.aq _ _ h2;rfl
 ·exact absurd h.1 (by decide)
 ·exact absurd h.1 (by decide)
 ·exact absurd h.1 (by decide)
 ·obtain⟨h2,h1⟩:=h;obtain⟨rfl,rfl⟩:=jF h1;obtain rfl:=Du.aq _ _ h2;rfl
def kN.t:kN->Du->Bool
 | .Mp n,d=>d.p != n
 | .fN r _ x,d=>!wo r d x
 | .iW r _ x,d=>zk r x d
@[simp] def rsE(d:Ro × List Du × Du × Du):List V:=[.agg (bX d.1 d.2.1),.agg d.2.2.1.row,.agg d.2.2.2.row]
theorem aaF(a b:Ro × List Du × Du × Du)(h:rsE a=rsE b):a=b:=by obtain⟨a1,a2,a3,a4⟩:=a;obtain⟨b1,b2,b3,b4⟩:=b;simp only [rsE,List.cons.injEq,V.agg.injEq,and_true]at h;obtain⟨h1,h2,h3⟩:=h;obtain⟨rfl,rfl⟩:=jF h1;rw [Du.aq _ _ h2,Du.aq _ _ h3]
theorem aaG(r:Ro)(o:List Du)(x y:Du):aY rsE [.agg [.sl 3 (r.bM.map Pn.row),.int .i64 r.lY,.int .i64 r.fN,.int .i64 r.win,.int .i64 r.tot,.int .i64 r.iW,.sl 3 (o.map Du.row)],.agg [.int .i64 x.p,.int .i64 x.a,.int .i64 x.b],.agg [.int .i64 y.p,.int .i64 y.a,.int .i64 y.b]]=(r,o,x,y):=aA aaF (r,o,x,y)
noncomputable abbrev att:aB:=bS rsE (fun _=>True) fun d=>.bool (wo d.1 d.2.2.1 d.2.2.2)
noncomputable abbrev Tu:=EV [] [] 21800 23
theorem aoc:af Tu [] Tryz.f218 att:=pb <| by
 rintro⟨r,o,x,y⟩ _;by_cases h:y.a<x.a
 ·simp -dsimp [Tryz.f218,Tu,bX,Du.row,wo,h];repeat' first|omega|simp -dsimp [Tu,h,bX,Du.row]|apply aI|apply nI|intro
 ·simp -dsimp [Tryz.f218,Tu,bX,Du.row,wo,h];repeat' first|omega|simp -dsimp [Tu,h,bX,Du.row]|apply aI|apply nI|intro
theorem ajp:FO 218 att:=pf aoc .nil
@[simp] def VW(d:Du × Int):List V:=[.agg d.1.row,aa d.2]
theorem VX(a b:Du × Int)(h:VW a=VW b):a=b:=by obtain⟨a1,a2⟩:=a;obtain⟨b1,b2⟩:=b;simp only [VW,aa,List.cons.injEq,V.agg.injEq,V.ip.injEq,V.int.injEq,true_and,and_true]at h;rw [Du.aq _ _ h.1,h.2]
theorem ur(x:Du)(n:Int):aY VW [.agg [.int .i64 x.p,.int .i64 x.a,.int .i64 x.b],.ip 1 [[.int .i64 n]] 0 0]=(x,n):=aA VX (x,n)
noncomputable abbrev aaH:aB:=bS VW (fun _=>True) fun d=>.bool (d.1.p != d.2)
noncomputable abbrev acV:=EV [] [] 21400 8
theorem am8:af acV [] Tryz.f214 aaH:=pb <| by rintro⟨x,n⟩ _;simp -dsimp [Tryz.f214,acV,Du.row,aa];repeat' first|omega|simp -dsimp [acV, *]|apply aI|apply nI|intro
theorem aiH:FO 214 aaH:=pf am8 .nil
@[simp] def VY(d:Du × Ro × List Du × Du):List V:=[.agg d.1.row,.ip 7 [bX d.2.1 d.2.2.1] 0 0,.ip 3 [d.2.2.2.row] 0 0]
theorem VZ(a b:Du × Ro × List Du × Du)(h:VY a=VY b):a=b:=by obtain⟨a1,a2,a3,a4⟩:=a;obtain⟨b1,b2,b3,b4⟩:=b;simp only [VY,List.cons.injEq,V.agg.injEq,V.ip.injEq,true_and,and_true]at h;obtain⟨h1,h2,h3⟩:=h;obtain⟨rfl,rfl⟩:=jF h2;rw [Du.aq _ _ h1,Du.aq _ _ h3]
theorem Gv(r:Ro)(o:List Du)(x y:Du):aY VY [.agg [.int .i64 x.p,.int .i64 x.a,.int .i64 x.b],.ip 7 [[.sl 3 (r.bM.map Pn.row),.int .i64 r.lY,.int .i64 r.fN,.int .i64 r.win,.int .i64 r.tot,.int .i64 r.iW,.sl 3 (o.map Du.row)]] 0 0,.ip 3 [[.int .i64 y.p,.int .i64 y.a,.int .i64 y.b]] 0 0]=(x,r,o,y):=aA VZ (x,r,o,y)
noncomputable abbrev afZ:aB:=bS VY (fun _=>True) fun d=>.bool (!wo d.2.1 d.1 d.2.2.2)
noncomputable abbrev Ts:=EV [(218,.pure att)] [] 21700 10
theorem an7:af Ts [] Tryz.f217 afZ:=pb <| by rintro⟨x,r,o,y⟩ _;simp -dsimp [Tryz.f217,Ts,Du.row,bX];repeat' first|omega|simp -dsimp [Ts,aaG,bX,Du.row]|apply aI|apply nI|intro
theorem ajl:FO 217 afZ:=pf an7 (.cons ajp .nil)
@[simp] def awP(d:Du × Ro × List Du × Du):List V:=[.agg d.1.row,.ip 3 [d.2.2.2.row] 0 0,.ip 7 [bX d.2.1 d.2.2.1] 0 0]
theorem awQ(a b:Du × Ro × List Du × Du)(h:awP a=awP b):a=b:=by obtain⟨a1,a2,a3,a4⟩:=a;obtain⟨b1,b2,b3,b4⟩:=b;simp only [awP,List.cons.injEq,V.agg.injEq,V.ip.injEq,true_and,and_true]at h;obtain⟨h1,h3,h2⟩:=h;obtain⟨rfl,rfl⟩:=jF h2;rw [Du.aq _ _ h1,Du.aq _ _ h3]
theorem Gw(r:Ro)(o:List Du)(x y:Du):aY awP [.agg [.int .i64 x.p,.int .i64 x.a,.int .i64 x.b],.ip 3 [[.int .i64 y.p,.int .i64 y.a,.int .i64 y.b]] 0 0,.ip 7 [[.sl 3 (r.bM.map Pn.row),.int .i64 r.lY,.int .i64 r.fN,.int .i64 r.win,.int .i64 r.tot,.int .i64 r.iW,.sl 3 (o.map Du.row)]] 0 0]=(x,r,o,y):=aA awQ (x,r,o,y)
noncomputable abbrev af0:aB:=bS awP (fun _=>True) fun d=>.bool (zk d.2.1 d.2.2.2 d.1)
noncomputable abbrev afm:=EV [(148,.pure bF)] [] 27000 14
theorem apR:af afm [] Tryz.f270 af0:=pb <| by rintro⟨x,r,o,y⟩ _;simp -dsimp [Tryz.f270,afm,Du.row,bX];repeat' first|omega|simp -dsimp [afm,au,zk,wr]|apply aI|apply nI|intro
theorem akJ:FO 270 af0:=pf apR (.cons abt .nil)
@[simp] def Gx(d:List Du × kN):List V:=[.sl 3 (d.1.map Du.row),d.2.v]
theorem zU(a b:List Du × kN)(h:Gx a=Gx b):a=b:=by obtain⟨a1,a2⟩:=a;obtain⟨b1,b2⟩:=b;simp only [Gx,List.cons.injEq,V.sl.injEq,true_and,and_true]at h;rw [aR Du.aq h.1,kN.qZ _ _ h.2]
theorem zV(l:List Du)(n:Int):aY Gx [.sl 3 (l.map Du.row),.fn 214 [.ip 1 [[.int .i64 n]] 0 0]]=(l,.Mp n):=aA zU (l,.Mp n)
theorem zl(l:List Du)(r:Ro)(o:List Du)(y:Du):aY Gx [.sl 3 (l.map Du.row),.fn 217 [.ip 7 [[.sl 3 (r.bM.map Pn.row),.int .i64 r.lY,.int .i64 r.fN,.int .i64 r.win,.int .i64 r.tot,.int .i64 r.iW,.sl 3 (o.map Du.row)]] 0 0,.ip 3 [[.int .i64 y.p,.int .i64 y.a,.int .i64 y.b]] 0 0]]=(l,.fN r o y):=aA zU (l,.fN r o y)
theorem FI(l:List Du)(r:Ro)(o:List Du)(y:Du):aY Gx [.sl 3 (l.map Du.row),.fn 270 [.ip 3 [[.int .i64 y.p,.int .i64 y.a,.int .i64 y.b]] 0 0,.ip 7 [[.sl 3 (r.bM.map Pn.row),.int .i64 r.lY,.int .i64 r.fN,.int .i64 r.win,.int .i64 r.tot,.int .i64 r.iW,.sl 3 (o.map Du.row)]] 0 0]]=(l,.iW r o y):=aA zU (l,.iW r o y)
noncomputable abbrev Mq:aB:=bS Gx (fun d=>d.1.length<=1000000) fun d=>.int .i64 (eB d.1 d.2.t)
noncomputable abbrev Lv:aB:=bS Gx (fun d=>d.1.length<=1000000) fun d=>.bool (d.1.any d.2.t)
noncomputable abbrev aeo:=EV [(214,.pure aaH),(217,.pure afZ),(270,.pure af0)] [] 26800 19
theorem aoK:af aeo [] Tryz.f268 Mq:=pb <| by
 rintro⟨l,c⟩ hl;have hl:l.length<=1000000:=hl;rcases c with n|⟨r,o,y⟩|⟨r,o,y⟩
 ·simp -dsimp [Tryz.f268,aeo,kN.v,aa,bX,Du.row];refine ay [9,10,5,11,12,13,14,15,16,17,4,18,8] (fun k:{k:Nat // k<=l.length/\∀j (h:j<l.length),j<k->(kN.Mp n).t l[j]=false}=>[(8,(true,.int .i64 k.1))]) (fun _=>cg) (fun k=>l.length - k.1) ⟨0,by omega,fun _ _ h=>by omega⟩ ?_ (bA.refl _) ?_
  ·simp [aj,aT]
  rintro⟨k,hk,v0⟩;by_cases aH:k<l.length
  ·have v1:(k:Int)<l.length:=(by omega);have wk:=wx k;cases hw:(kN.Mp n).t l[k]
   ·have hw':=hw;simp only [kN.t]at hw';simp -dsimp [v1];repeat' first|omega|simp -dsimp [aeo,v1,aH,hl,hw',wk,Du.row,bX,ur]|apply aI|apply nI|intro
    refine⟨k+1,ag rfl ?_,bA.refl _,⟨by omega,fun j h hj=>?_⟩,by omega⟩
    ·simp [aj,aT]
    ·by_cases v4:j=k
     ·subst v4;exact hw
     ·exact v0 j h (by omega)
   ·have hz:=cW l (kN.Mp n).t aH hw v0;have hw':=hw;simp only [kN.t]at hw';simp -dsimp [v1];repeat' first|omega|simp -dsimp [aeo,v1,aH,hl,hw',wk,hz,Du.row,bX,ur]|apply aI|apply nI|intro
  ·have v2:¬ (k:Int)<l.length:=(by omega);have hz:=bP l (kN.Mp n).t (fun j h=>v0 j h (by omega));simp -dsimp [v2];repeat' first|omega|simp -dsimp [aeo,v2,hz]|apply aI|apply nI|intro
 ·simp -dsimp [Tryz.f268,aeo,kN.v,aa,bX,Du.row];refine ay [9,10,5,11,12,13,14,15,16,17,4,18,8] (fun k:{k:Nat // k<=l.length/\∀j (h:j<l.length),j<k->(kN.fN r o y).t l[j]=false}=>[(8,(true,.int .i64 k.1))]) (fun _=>cg) (fun k=>l.length - k.1) ⟨0,by omega,fun _ _ h=>by omega⟩ ?_ (bA.refl _) ?_
  ·simp [aj,aT]
  rintro⟨k,hk,v0⟩;by_cases aH:k<l.length
  ·have v1:(k:Int)<l.length:=(by omega);have wk:=wx k;cases hw:(kN.fN r o y).t l[k]
   ·have hw':=hw;simp only [kN.t]at hw';simp -dsimp [v1];repeat' first|omega|simp -dsimp [aeo,v1,aH,hl,hw',wk,Du.row,bX,Gv]|apply aI|apply nI|intro
    refine⟨k+1,ag rfl ?_,bA.refl _,⟨by omega,fun j h hj=>?_⟩,by omega⟩
    ·simp [aj,aT]
    ·by_cases v4:j=k
     ·subst v4;exact hw
     ·exact v0 j h (by omega)
   ·have hz:=cW l (kN.fN r o y).t aH hw v0;have hw':=hw;simp only [kN.t]at hw';simp -dsimp [v1];repeat' first|omega|simp -dsimp [aeo,v1,aH,hl,hw',wk,hz,Du.row,bX,Gv]|apply aI|apply nI|intro
  ·have v2:¬ (k:Int)<l.length:=(by omega);have hz:=bP l (kN.fN r o y).t (fun j h=>v0 j h (by omega));simp -dsimp [v2];repeat' first|omega|simp -dsimp [aeo,v2,hz]|apply aI|apply nI|intro
 ·simp -dsimp [Tryz.f268,aeo,kN.v,aa,bX,Du.row];refine ay [9,10,5,11,12,13,14,15,16,17,4,18,8] (fun k:{k:Nat // k<=l.length/\∀j (h:j<l.length),j<k->(kN.iW r o y).t l[j]=false}=>[(8,(true,.int .i64 k.1))]) (fun _=>cg) (fun k=>l.length - k.1) ⟨0,by omega,fun _ _ h=>by omega⟩ ?_ (bA.refl _) ?_
  ·simp [aj,aT]
  rintro⟨k,hk,v0⟩;by_cases aH:k<l.length
  ·have v1:(k:Int)<l.length:=(by omega);have wk:=wx k;cases hw:(kN.iW r o y).t l[k]
   ·have hw':=hw;simp only [kN.t]at hw';simp -dsimp [v1];repeat' first|omega|simp -dsimp [aeo,v1,aH,hl,hw',wk,Du.row,bX,Gw]|apply aI|apply nI|intro
    refine⟨k+1,ag rfl ?_,bA.refl _,⟨by omega,fun j h hj=>?_⟩,by omega⟩
    ·simp [aj,aT]
    ·by_cases v4:j=k
     ·subst v4;exact hw
     ·exact v0 j h (by omega)
   ·have hz:=cW l (kN.iW r o y).t aH hw v0;have hw':=hw;simp only [kN.t]at hw';simp -dsimp [v1];repeat' first|omega|simp -dsimp [aeo,v1,aH,hl,hw',wk,hz,Du.row,bX,Gw]|apply aI|apply nI|intro
  ·have v2:¬ (k:Int)<l.length:=(by omega);have hz:=bP l (kN.iW r o y).t (fun j h=>v0 j h (by omega));simp -dsimp [v2];repeat' first|omega|simp -dsimp [aeo,v2,hz]|apply aI|apply nI|intro
theorem ajY:FO 268 Mq:=pf aoK (.cons aiH (.cons ajl (.cons akJ .nil)))
noncomputable abbrev acW:=EV [(268,.pure Mq)] [] 21600 9
theorem am9:af acW [] Tryz.f216 Lv:=pb <| by
 rintro⟨l,c⟩ hl;have hl:l.length<=1000000:=hl;have hz:=cO l c.t;rcases c with n|⟨r,o,y⟩|⟨r,o,y⟩
 all_goals
  simp -dsimp [Tryz.f216,acW,kN.v,aa,bX,Du.row];repeat' first|omega|simp -dsimp [acW,hl,zV,zl,FI,hz]|apply aI|apply nI|intro
theorem aiI:FO 216 Lv:=pf am9 (.cons ajY .nil)
end Go.Sx
end
section
namespace Go.Sx
open Go.Proofs
attribute [local simp] ri aa ints
attribute [local irreducible] bA
def yY:bB where
 go args h:=match args with
  | [.sl z els]=>⟨z=3/\els.length<=1000000,.bw 15905 (hnext h 15905) els.length,bD h 15905 {z:=3,els:=els,ty:=200}⟩
  | _=>⟨False,.top,h⟩
noncomputable abbrev asF:=EV [] [5] 15900 8
theorem aus:vG asF [] Tryz.f159 yY:=by
 intro args h hc
 match args,hc with
 | [.sl z els],hc=>
  obtain⟨rfl,hb⟩:=hc;have hn:=fun B=>dI h 15905 B;cases els with
  | nil=>
   simp -dsimp [Tryz.f159,asF,yY];repeat' first|omega|simp -dsimp [asF,hn,qI]|apply aI|apply nI|intro
   ·exact⟨_,.nil _ _ 2 15905 3 200 rfl (by decide) (by decide) (.refl _),rfl,rfl,bA.refl _⟩
   ·exact⟨_,.refl _,rfl,rfl,bA.refl _⟩
  | cons x els=>
   have hb':els.length+1<=1000000:=hb;simp -dsimp [Tryz.f159,asF,yY];repeat' first|omega|simp -dsimp [asF,hn,hb',qI]|apply aI|apply nI|intro
   exact⟨_,.refl _,rfl,rfl,bA.refl _⟩
theorem auf:dM Tryz.prog 159 (.heap yY):=VM (E:=asF) rfl Mi.nil (ok:=[]) (fn:=Tryz.f159) (by kernel_rfl) (by kernel_rfl) (by kernel_rfl) (by kernel_rfl) rfl (fun args h hc=>by match args,hc with | [.sl z els],hc=>simp) aus
theorem nO(els:List (List V))(h:Hp):yY.go [.sl 3 els] h=⟨els.length<=1000000,.bw 15905 (hnext h 15905) els.length,bD h 15905 {z:=3,els:=els,ty:=200}⟩:=by simp [yY]
def ofT(r:Ro)(n:Int):List (Nat × Site):=[(15003,{base:=0,ah:=[{z:=6,els:=[[.sl 3 (r.bM.map Pn.row),.int .i64 r.lY,.int .i64 r.fN,.int .i64 r.win,.int .i64 r.tot,.int .i64 r.iW]],ty:=41,fz:=true}]}),(15006,{base:=0,ah:=[{z:=7,els:=[[.nil,.int .i64 0,.int .i64 0,.int .i64 0,.int .i64 0,.int .i64 0,.nil]],ty:=244}]}),(15005,{base:=0,ah:=[{z:=1,els:=[[.int .i64 n]],ty:=3}]})]
def WD(d:Ro × List Du × Int):Hp:=hps ((15905,{base:=0,ah:=[{z:=3,els:=d.2.1.map Du.row,ty:=200}]})::ofT d.1 d.2.2) cg
open Classical in
noncomputable def dfV(l:List Du)(n:Int):V:=if eB l (kN.Mp n).t = -1 then .bw 15905 0 l.length else .bw 21341 0 (own l n).length
open Classical in
noncomputable def dfH(d:Ro × List Du × Int):Hp:=if eB d.2.1 (kN.Mp d.2.2).t = -1 then WD d else hps ((21341,{base:=0,ah:=[{z:=3,els:=(own d.2.1 d.2.2).map Du.row,ty:=200}]})::(21307,{base:=d.2.1.length,ah:=[]})::(15905,{base:=1,ah:=[]})::ofT d.1 d.2.2) cg
def dfE(d:Ro × List Du × Int):List V:=[.bw 15905 0 d.2.1.length,.fn 214 [.bG 15005 0 1 0 0]]
theorem af2(d d':Ro × List Du × Int)(h:Hp)(_:dfE d=dfE d')(h1:h=WD d)(h2:h=WD d'):d=d':=by obtain⟨r,l,n⟩:=d;obtain⟨r',l',n'⟩:=d';rw [h1]at h2;have a1:=congrArg Site.ah (congrFun h2 15003);have a2:=congrArg Site.ah (congrFun h2 15005);have a3:=congrArg Site.ah (congrFun h2 15905);simp [WD,ofT]at a1 a2;simp only [WD,eU,if_true,List.cons.injEq,dZ.mk.injEq,and_true,true_and]at a3;have e1:=Ro.aq r r' (by simpa [Ro.row,bp]using a1);rw [e1,a2,aR Du.aq a3]
noncomputable abbrev aaI:bB:=Wu dfE (fun d h=>h=WD d) (fun d=>d.2.1.length<=1000000) (fun d=>dfV d.2.1 d.2.2) (fun d _=>dfH d)
theorem aaJ(r:Ro)(l:List Du)(n:Int):aaI.go [.bw 15905 0 l.length,.fn 214 [.bG 15005 0 1 0 0]] (hps [(15905,{base:=0,ah:=[{z:=3,els:=l.map Du.row,ty:=200}]}),(15003,{base:=0,ah:=[{z:=6,els:=[[.sl 3 (r.bM.map Pn.row),.int .i64 r.lY,.int .i64 r.fN,.int .i64 r.win,.int .i64 r.tot,.int .i64 r.iW]],ty:=41,fz:=true}]}),(15006,{base:=0,ah:=[{z:=7,els:=[[.nil,.int .i64 0,.int .i64 0,.int .i64 0,.int .i64 0,.int .i64 0,.nil]],ty:=244}]}),(15005,{base:=0,ah:=[{z:=1,els:=[[.int .i64 n]],ty:=3}]})] cg)=⟨l.length<=1000000,dfV l n,dfH (r,l,n)⟩:=ze af2 (d:=(r,l,n)) rfl
theorem DT(a b c d:Site):hps [(15003,a),(15006,b),(15005,c),(15003,d)] cg=hps [(15003,a),(15006,b),(15005,c)] cg:=by
 funext k;by_cases h:k=15003
 ·simp [h]
 ·simp [h]
structure DfO (l:List Du) (n:Int) where
 j:Nat
 els:List Du
 hj:(own (l.take j) n).length<j/\j<=l.length
 hl:els.length=l.length
 ht:els.take (own (l.take j) n).length=own (l.take j) n
 hd:els.drop j=l.drop j
theorem Mr{l:List Du}{n:Int}(h:∀d∈l,d.p=n):own l n=l:=List.filter_eq_self.2 fun d hd=>by simp [h d hd]
noncomputable abbrev avr:=EV [(214,.pure aaH),(268,.pure Mq)] [41] 21300 42
theorem azT:ct avr [] Tryz.f213 aaI:=by
 intro args h hc;obtain⟨⟨r,l,n⟩,rfl,rfl,hl,fV⟩:=jM hc;rw [fV];clear fV hc;have hl:l.length<=1000000:=hl
 ·by_cases hi:eB l (kN.Mp n).t = -1
  ·simp -dsimp [Tryz.f213,avr,dfE,WD,ofT,dfV,dfH,hi];repeat' first|omega|simp -dsimp [avr,zV,hi,aa,kN.v,hl,bU]|apply aI|apply nI|intro
  ·obtain⟨k,hk,hz,hp,aqA⟩:=ve hi;have v2:((k:Int) = -1)=False:=eq_false (by omega);have wk1:=wx k;have vd:own (l.take k) n=l.take k:=Mr fun d hd=>by obtain⟨j,hj,rfl⟩:=List.getElem_of_mem hd;have vr:j<k:=(by rw [List.length_take]at hj;omega);have:=aqA j (by omega) vr;simpa [kN.t]using this
   have Ak:own (l.take (k+1)) n=l.take k:=by rw [kY l hk,own,List.filter_append];have e:l.getD k default=l[k]:=(by simp [List.getD,hk]);have hp':¬ l[k].p=n:=(by simpa [kN.t]using hp);rw [e];simp only [List.filter_cons,hp',decide_false,Bool.false_eq_true,if_false,List.filter_nil,List.append_nil];exact vd
   have v8:(l.take k).length=k:=(by simp;omega);have v9:0<l.length:=(by omega);have va:l≠[]:=List.length_pos_iff.1 v9;have vs:List.take l.length (l.map Du.row)=l.map Du.row:=List.take_of_length_le (by simp);have e1:dfV l n=.bw 21341 0 (own l n).length:=if_neg hi;have e2:dfH (r,l,n)=hps ((21341,{base:=0,ah:=[{z:=3,els:=(own l n).map Du.row,ty:=200}]})::(21307,{base:=l.length,ah:=[]})::(15905,{base:=1,ah:=[]})::ofT r n) cg:=if_neg hi;rw [e1,e2];simp -dsimp [Tryz.f213,avr,dfE,WD,ofT];repeat' first|omega|simp -dsimp [avr,zV,hz,v2,wk1,aa,kN.v,va,hl,v9,vs]|apply aI|apply nI|intro
   refine ay [16,17,18,19,22,23,24,25,7,26,27,28,29,30,31,32,33,34,35,5,20,21,6] (fun q:DfO l n=>[(5,(true,.int .i64 ((own (l.take q.j) n).length:Nat))),(6,(true,.int .i64 (q.j:Nat)))])
    (fun q:DfO l n=>hps [(21307,{base:=q.j,ah:=[]}),(15905,{base:=0,ah:=[{z:=3,els:=q.els.map Du.row,ty:=200}]}),(15003,{base:=0,ah:=[{z:=6,els:=[[.sl 3 (r.bM.map Pn.row),.int .i64 r.lY,.int .i64 r.fN,.int .i64 r.win,.int .i64 r.tot,.int .i64 r.iW]],ty:=41,fz:=true}]}),(15006,{base:=0,ah:=[{z:=7,els:=[[.nil,.int .i64 0,.int .i64 0,.int .i64 0,.int .i64 0,.int .i64 0,.nil]],ty:=244}]}),(15005,{base:=0,ah:=[{z:=1,els:=[[.int .i64 n]],ty:=3}]})] cg)
    (fun q:DfO l n=>l.length - q.j) ⟨k+1,l,by rw [Ak,v8];omega,rfl,by rw [Ak,v8],rfl⟩ ?_ ?_ ?_
   ·simp [aj,aT,Ak,v8]
   ·(try simp -dsimp only [hpx]);refine ai ?_;simp -dsimp [aC,Ro.row,bp]<;>exact rz
   rintro⟨j,els,⟨vx,vX⟩,v5,v6,Ab⟩;dsimp only;by_cases hj:j<l.length
   ·have v7:(j:Int)<l.length:=(by omega);have wj:=wx j;obtain⟨x,hx⟩:∃x,els[j]?=some x:=⟨_,List.getElem?_eq_getElem (by omega)⟩
    have hx':els[j]'(by omega)=x:=p6 hx (by omega);have vy:l[j]?=some x:=by have:=congrArg (fun q=>q[0]?) Ab;simpa [hx]using this.symm
    have v3:own (l.take (j+1)) n=own (l.take j) n++(if x.p=n then [x]else []):=by rw [kY l hj,own,List.filter_append];have e:l.getD j default=x:=(by simp [List.getD,vy]);rw [e,own];by_cases SU:x.p=n<;>simp [SU]
    by_cases SU:x.p=n
    ·rw [if_pos SU]at v3;have JN:(x.p != n)=false:=(by simp [SU]);generalize vb:(own (l.take j) n).length=i at *;have w0i:=wx i;have vP:i<l.length:=(by omega);have vV:(i:Int)<l.length:=(by omega);obtain⟨y,hy⟩:∃y,els[i]?=some y:=⟨_,List.getElem?_eq_getElem (by omega)⟩
     have hy':els[i]'(by omega)=y:=p6 hy (by omega);simp -dsimp [v7];repeat' first|omega|simp -dsimp [avr,v7,hj,hx,hx',hy,hy',v5,vP,vV,wj,w0i,Du.row,ur,JN]|apply aI|apply nI|intro
     have bE:List.set (els.map Du.row) i [V.int .i64 x.p,V.int .i64 x.a,V.int .i64 x.b]=(els.set i x).map Du.row:=(by rw [List.map_set];rfl);refine⟨⟨j+1,els.set i x,?_,?_,?_,?_⟩,ag rfl ?_,?_,?_⟩
     ·rw [v3];simp;omega
     ·simp;exact v5
     ·rw [v3];simp only [List.length_append,vb,List.length_singleton];rw [List.take_add_one,List.take_set_of_le (by omega),v6];simp [show i<els.length by omega]
     ·rw [List.drop_set_of_lt (by omega),<-List.drop_drop,Ab,List.drop_drop]
     ·simp [aj,aT,v3,vb]
     ·rw [bE];(try simp -dsimp only [hpx]);refine ai ?_;simp -dsimp [aC]<;>exact rz
     ·dsimp only;omega
    ·rw [if_neg SU,List.append_nil]at v3;have JN:(x.p != n)=true:=(by simp [SU]);simp -dsimp [v7];repeat' first|omega|simp -dsimp [avr,v7,hj,hx,hx',v5,wj,Du.row,ur,JN]|apply aI|apply nI|intro
     refine⟨⟨j+1,els,?_,v5,?_,?_⟩,ag rfl ?_,?_,?_⟩
     ·rw [v3];omega
     ·rw [v3];exact v6
     ·rw [<-List.drop_drop,Ab,List.drop_drop]
     ·simp [aj,aT,v3]
     ·(try simp -dsimp only [hpx]);refine ai ?_;simp -dsimp [aC]<;>exact rz
     ·dsimp only;omega
   ·have vW:¬ (j:Int)<l.length:=(by omega);have AD:j=l.length:=(by omega);subst AD;rw [List.take_length]at v6 vx;simp -dsimp [vW];have jU:=xC l n;have uQ:∀X:List (List V),List.take (own l n).length (List.take (own l n).length (els.map Du.row)++X)=(own l n).map Du.row:=fun X=>by rw [<-List.map_take,v6,List.take_left' (by simp)]
    have ad4:¬ els=[]:=(by intro e;rw [e]at v5;simp at v5;omega);repeat' first|omega|simp -dsimp [avr,v5,va,ad4,uQ]|apply aI|apply nI|intro
    exact(by(try simp -dsimp only [hpx]);refine ai ?_;simp -dsimp [aC,Ro.row,bp]<;>exact rz)
theorem azl:dM Tryz.prog 213 (.heap aaI):=yE azT (.cons aiH (.cons ajY .nil)) (fun args h hc=>by obtain⟨d,rfl,_⟩:=jM hc;simp [dfE])
@[simp] def ofE(d:Ro × List Du × Int):List V:=[.agg d.1.row,.sl 3 (d.2.1.map Du.row),.int .i64 d.2.2]
theorem KZ(a b:Ro × List Du × Int)(h:ofE a=ofE b):a=b:=by obtain⟨a1,a2,a3⟩:=a;obtain⟨b1,b2,b3⟩:=b;simp only [ofE,List.cons.injEq,V.agg.injEq,V.sl.injEq,V.int.injEq,true_and,and_true]at h;rw [Ro.aq _ _ h.1,aR Du.aq h.2.1,h.2.2]
theorem iu(r:Ro)(l:List Du)(n:Int):aY ofE [.agg [.sl 3 (r.bM.map Pn.row),.int .i64 r.lY,.int .i64 r.fN,.int .i64 r.win,.int .i64 r.tot,.int .i64 r.iW],.sl 3 (l.map Du.row),.int .i64 n]=(r,l,n):=aA KZ (r,l,n)
noncomputable abbrev ofS:aB:=bS ofE (fun d=>d.2.1.length<=1000000) fun d=>.agg (bX d.1 (own d.2.1 d.2.2))
noncomputable abbrev pO:=EV [(159,.heap yY),(213,.heap aaI)] [] 15000 13 [(1,[3,50003])]
theorem amV:af pO [(1,([0],[[0,1,2,3,4,5,6]]))] Tryz.f150 ofS:=pb <| by
 rintro⟨r,l,n⟩ hl;have hl:l.length<=1000000:=hl;have hd:=aaJ r l n;by_cases hi:eB l (kN.Mp n).t = -1
 ·have v0:own l n=l:=Mr fun d hd=>by have hz:=cO l (kN.Mp n).t;rw [hi]at hz;have:=List.any_eq_false.1 hz.symm d hd;simpa [kN.t]using this
  simp -dsimp [Tryz.f150,pO,Ro.row,bp,bX,DT];repeat' first|omega|simp -dsimp [pO,aS,nO,hd,hl,DT,dfV,dfH,WD,ofT,hi,v0,bX]|apply aI|apply nI|intro
 ·simp -dsimp [Tryz.f150,pO,Ro.row,bp,bX,DT];repeat' first|omega|simp -dsimp [pO,aS,nO,hd,hl,DT,dfV,dfH,WD,ofT,hi,bX]|apply aI|apply nI|intro
theorem aip:FO 150 ofS:=pf amV (.cons auf (.cons azl .nil))
end Go.Sx
end
end
