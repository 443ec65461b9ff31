/- Fleet: the program's blocks, and what can be flown. No conditions. -/
import Derived.Test.YtegiclpanpmkdaaGreatDoorR38
set_option linter.all false
set_option maxRecDepth 100000
set_option maxHeartbeats 8000000
noncomputable section
namespace Go.Sx
open Go.Proofs
attribute [local simp] ri aa ints
attribute [local irreducible] bA
noncomputable abbrev E56:=EV [] [] 5600 15
theorem b56:af E56 [] Tryz.f56 rgS:=pb <| by rintro⟨n,lo,hi⟩ _;simp -dsimp [Tryz.f56,E56,bQ];repeat' first|omega|simp -dsimp [E56,bQ]|apply aI|apply nI|intro
theorem Sl:FO 56 rgS:=pf b56 .nil
noncomputable abbrev ab5:aB:=bS fpE (fun d=>Cw d.1) fun d=>.bool (Xc d.1 d.2.1 d.2.2)
noncomputable abbrev Wx:=EV [(56,.pure rgS)] [] 3800 27
theorem b38:af Wx [] Tryz.f38 ab5:=pb <| by
 rintro⟨f,j,m⟩ hK;have hf:=Cw.ok hK;simp only at hf;have h1:=hf.dU;have h2:=hf.JJ;have h3:=hf.jobs;have hT:Xc f j m=(bQ j 0 (f.jobs.length - 1) && bQ m 0 (f.eH.ax - 1)):=by rw [<-h1];rfl
 have w1:=wi ((f.jobs.length:Int) - 1);have w2:=wi (f.eH.ax - 1);cases c1:bQ j 0 (f.jobs.length - 1)<;>cases c2:bQ m 0 (f.eH.ax - 1)
 all_goals
  rw [c1,c2]at hT;simp -dsimp [Tryz.f38,Wx];repeat' first|omega|simp -dsimp [Wx,w1,w2,c1,c2,hT]|apply aI|apply nI|intro
theorem agW:FO 38 ab5:=pf b38 (.cons Sl .nil)
noncomputable abbrev ad1:aB:=bS fpE Xa fun d=>.dB [.agg (D5 d.1 d.2.1.toNat d.2.2.toNat).row,.bool (zZ d.1 d.2.1.toNat d.2.2.toNat)]
noncomputable abbrev E57:=EV [] [] 5700 121
theorem b57:af E57 [(1,([4,6,7,12,14,15],[[0,1,2,3,4,5,6,7,8,9,10,11,12,13,14,15,16,17,18]]))] Tryz.f57 ad1:=pb <| by
 rintro⟨f,j,m⟩ ⟨⟨hf,_,_⟩,hj,hm⟩;simp only at hf hj hm;obtain⟨j,rfl⟩:=Int.eq_ofNat_of_zero_le hj.1;obtain⟨m,rfl⟩:=Int.eq_ofNat_of_zero_le hm.1;have v0:j<f.jobs.length:=by omega
 have jW:m<f.dU.length:=by omega
 have v2:(j:Int)<f.jobs.length:=hj.2;have oh:(m:Int)<f.dU.length:=hm.2;obtain⟨x,hx,hx'⟩:=gx v0;have Rl:fP f j=x:=by simp [fP,List.getD,hx]
 obtain⟨b,hb,hb'⟩:=gx jW;have v7:sv f m=b:=by simp [sv,List.getD,hb]
 have v1:=hf.jb v0;have oG:=hf.bs jW;have h3:=hf.t3 v0 jW;have hn:=yd hf.met;have TJ:=hf.tim.sq;have vb:=hf.turn;have vd:=hf.gF;have hQ:zZ f j m=(decide (0<=pX f j m) && decide (0<=oA f j) && decide (0<=pY f j m)):=rfl;have hV:jJ f j m=⟨(fP f j).dep - (if sv f m=(fP f j).a then 0 else f.turn+pX f j m),(fP f j).dep+oA f j,(fP f j).dep+oA f j+(if sv f m=(fP f j).b then 0 else f.turn+pY f j m),pX f j m+oA f j+pY f j m⟩:=rfl;have hX:pX f j m=g2 (zX f) (sv f m).toNat (fP f j).a.toNat:=rfl;have hY:oA f j=g2 (zX f) (fP f j).a.toNat (fP f j).b.toNat:=rfl;have hZ:pY f j m=g2 (zX f) (fP f j).b.toNat (sv f m).toNat:=rfl;have hO:D5 f j m=if zZ f j m=true then jJ f j m else ⟨0,0,0,0⟩:=rfl;rw [Rl]at v1 hV hX hY hZ;rw [v7]at oG hV hX hZ;obtain⟨xa,xc,xd,xv,xw⟩:=x;simp only at v1 hV hX hY hZ;obtain⟨p,rfl⟩:=Int.eq_ofNat_of_zero_le oG.1;obtain⟨a,rfl⟩:=Int.eq_ofNat_of_zero_le v1.1.1;obtain⟨c,rfl⟩:=Int.eq_ofNat_of_zero_le v1.2.1.1;simp only [Int.toNat_natCast]at hX hY hZ;have hp:p<f.met.n.toNat:=by omega
 have ha:a<f.met.n.toNat:=by omega
 have hc:c<f.met.n.toNat:=by omega
 have HJ:=TJ.1;obtain⟨r1,kR,oy,oQ⟩:=jd TJ hp ha;obtain⟨r2,jP,vP,oR⟩:=jd TJ ha hc;obtain⟨r3,TK,vr,JC⟩:=jd TJ hc hp;rw [<-hX]at oQ;rw [<-hY]at oR;rw [<-hZ]at JC;have Dg:=(List.getElem?_eq_some_iff.1 kR).2;have pe:=(List.getElem?_eq_some_iff.1 jP).2;have Dh:=(List.getElem?_eq_some_iff.1 TK).2;have Di:=(List.getElem?_eq_some_iff.1 oQ).2;have pg:=(List.getElem?_eq_some_iff.1 oR).2;have Dj:=(List.getElem?_eq_some_iff.1 JC).2;clear hX hY hZ;have v3:=ajK f;simp only [mL]at v3;generalize pX f j m=X at *;generalize oA f j=Y at *;generalize pY f j m=Z at *;generalize YX:zZ f j m=Q at *;generalize jJ f j m=B at *;generalize YY:D5 f j m=O at *;generalize zX f=T at *;have q1:p<T.length:=by omega
 have q2:a<T.length:=by omega
 have q3:c<T.length:=by omega
 have q4:a<r1.length:=by omega
 have q5:c<r2.length:=by omega
 have q6:p<r3.length:=by omega
 have YZ:(p:Int)<T.length:=by omega
 have Y3:(a:Int)<T.length:=by omega
 have Y4:(c:Int)<T.length:=by omega
 have Y5:(a:Int)<r1.length:=by omega
 have Y6:(c:Int)<r2.length:=by omega
 have Y7:(p:Int)<r3.length:=by omega
 by_cases c1:X<0
 ·have hQ:Q=false:=by rw [hQ,decide_eq_false (by omega:¬ 0<=X)];rfl
  rw [hQ]at hO;have hO:O=⟨0,0,0,0⟩:=hO;simp -dsimp [Tryz.f57,E57];repeat' first|omega|simp -dsimp [E57,hx,hx',hb,hb',v0,jW,v2,oh,v3,Jb.row,Bk.row,aS,kR,Dg,jP,pe,TK,Dh,oQ,Di,oR,pg,JC,Dj,q1,q2,q3,q4,q5,q6,YZ,Y3,Y4,Y5,Y6,Y7,ri,c1,YX,YY,hQ,hO]|apply aI|apply nI|intro
 by_cases c2:Y<0
 ·have hQ:Q=false:=by rw [hQ,decide_eq_false (by omega:¬ 0<=Y)];simp
  rw [hQ]at hO;have hO:O=⟨0,0,0,0⟩:=hO;replace c1:(X<0)=False:=eq_false c1;simp -dsimp [Tryz.f57,E57];repeat' first|omega|simp -dsimp [E57,hx,hx',hb,hb',v0,jW,v2,oh,v3,Jb.row,Bk.row,aS,kR,Dg,jP,pe,TK,Dh,oQ,Di,oR,pg,JC,Dj,q1,q2,q3,q4,q5,q6,YZ,Y3,Y4,Y5,Y6,Y7,ri,c1,c2,YX,YY,hQ,hO]|apply aI|apply nI|intro
 by_cases c3:Z<0
 ·have hQ:Q=false:=by rw [hQ,decide_eq_false (by omega:¬ 0<=Z)];simp
  rw [hQ]at hO;have hO:O=⟨0,0,0,0⟩:=hO;replace c1:(X<0)=False:=eq_false c1;replace c2:(Y<0)=False:=eq_false c2;simp -dsimp [Tryz.f57,E57];repeat' first|omega|simp -dsimp [E57,hx,hx',hb,hb',v0,jW,v2,oh,v3,Jb.row,Bk.row,aS,kR,Dg,jP,pe,TK,Dh,oQ,Di,oR,pg,JC,Dj,q1,q2,q3,q4,q5,q6,YZ,Y3,Y4,Y5,Y6,Y7,ri,c1,c2,c3,YX,YY,hQ,hO]|apply aI|apply nI|intro
 have hQ:Q=true:=by rw [hQ,decide_eq_true (by omega:0<=X),decide_eq_true (by omega:0<=Y),decide_eq_true (by omega:0<=Z)];rfl
 have w2:=wi (xd+Y);have w4:=wi (X+Y);have w5:=wi (X+Y+Z);have w6:=wi (f.turn+X);have w7:=wi (f.turn+Z);have w8:=wi (xd - (f.turn+X));have w9:=wi (xd+Y+(f.turn+Z));have hO:O=⟨if (p:Int)=a then xd else xd - (f.turn+X),xd+Y,if (p:Int)=c then xd+Y else xd+Y+(f.turn+Z),X+Y+Z⟩:=by
  rw [hO,if_pos hQ,hV];simp only [Bk.mk.injEq,true_and,and_true];constructor
  ·split<;>omega
  ·split<;>omega
 replace c1:(X<0)=False:=eq_false c1;replace c2:(Y<0)=False:=eq_false c2;replace c3:(Z<0)=False:=eq_false c3;have v8:∀x y:Nat,(((x:Int) != y)=true/\((x:Int)=y)=False)\/(((x:Int) != y)=false/\((x:Int)=y)=True):=fun x y=>by
  by_cases e:x=y
  ·exact .inr ⟨by simp [e],eq_true (by omega)⟩
  ·exact .inl ⟨by simp;omega,eq_false (by omega)⟩
 rcases v8 p a with⟨c4,d4⟩|⟨c4,d4⟩<;>rcases v8 p c with⟨c5,d5⟩|⟨c5,d5⟩
 all_goals
  simp only [d4,d5,if_true,if_false]at hO;simp -dsimp [Tryz.f57,E57];repeat' first|omega|simp -dsimp [E57,hx,hx',hb,hb',v0,jW,v2,oh,v3,Jb.row,Bk.row,aS,kR,Dg,jP,pe,TK,Dh,oQ,Di,oR,pg,JC,Dj,q1,q2,q3,q4,q5,q6,YZ,Y3,Y4,Y5,Y6,Y7,ri,c1,c2,c3,c4,c5,d4,d5,w2,w4,w5,w6,w7,w8,w9,YX,YY,hQ,hO]|apply aI|apply nI|intro
theorem akx:FO 57 ad1:=pf b57 .nil
structure FoP (d:Fl × Int × Int):Prop where
 ok:Cw d.1
 p:0<=d.2.1/\d.2.1<d.1.met.n
 t:0<=d.2.2/\d.2.2<=2000
noncomputable abbrev ad2:aB:=bS fpE FoP fun d=>.bool (wT d.1 d.2.1 d.2.2)
noncomputable abbrev E93:=EV [(16,.pure OpS)] [] 9300 30
theorem b93:af E93 [] Tryz.f93 ad2:=pb <| by
 rintro⟨f,p,t⟩ ⟨hK,hp,ht⟩;simp only at hK hp ht;have ho:=hK.op hp ht;have hF:EI f.met f.mn p t=wT f p t:=rfl;cases c:wT f p t
 all_goals
  simp -dsimp [Tryz.f93,E93];repeat' first|omega|simp -dsimp [E93,ye,ho,hF,c]|apply aI|apply nI|intro
theorem aml:FO 93 ad2:=pf b93 (.cons aiG .nil)
structure CnP (d:Fl × Int × Int × Bool):Prop where
 jm:Xa (d.1,d.2.1,d.2.2.1)
noncomputable abbrev Xb:aB:=bS TL CnP fun d=>.dB [.agg (D5 d.1 d.2.1.toNat d.2.2.1.toNat).row,.bool (jR d.1 d.2.1.toNat d.2.2.1.toNat && (d.2.2.2 || DY d.1 d.2.1.toNat d.2.2.1.toNat))]
noncomputable abbrev E39:=EV [(57,.pure ad1),(93,.pure ad2)] [] 3900 95
theorem b39:af E39 [(4,([4,6,7,12,14,15],[[0,1,2,3,4,5,6,7,8,9,10,11,12,13,14,15,16,17,18]]))] Tryz.f39 Xb:=pb <| by
 rintro⟨f,j,m,w⟩ ⟨hJ⟩;have hK:=hJ.ok;have hf:=hK.ok;have hj:=hJ.j;have hm:=hJ.m;simp only at hK hf hj hm hJ;obtain⟨j,rfl⟩:=Int.eq_ofNat_of_zero_le hj.1;obtain⟨m,rfl⟩:=Int.eq_ofNat_of_zero_le hm.1;have v0:j<f.jobs.length:=by omega
 have jW:m<f.dU.length:=by omega
 have v2:(j:Int)<f.jobs.length:=hj.2;have oh:(m:Int)<f.dU.length:=hm.2;obtain⟨x,hx,hx'⟩:=gx v0;have Rl:fP f j=x:=by simp [fP,List.getD,hx]
 obtain⟨b,hb,hb'⟩:=gx jW;have v7:sv f m=b:=by simp [sv,List.getD,hb]
 have v1:=hf.jb v0;have oG:=hf.bs jW;have v4:=ajL f;have ac0:rR f f.eH.ax.toNat≠[]:=fun h=>by have:=congrArg List.length h;rw [nB,hf.Np,List.length_nil]at this;omega
 rw [Cv,if_neg ac0]at v4;have vs:(rR f f.eH.ax.toNat).length=f.dU.length:=by rw [nB,hf.Np]
 have XZ:(rR f f.eH.ax.toNat)[m]?=some (Ai f m):=by rw [hf.Np];simp [rR,jW]
 have C5:∀h,(rR f f.eH.ax.toNat)[m]'h=Ai f m:=fun h=>by rw [List.getElem?_eq_getElem h]at XZ;exact Option.some.inj XZ
 obtain⟨v9,oy,vP,_⟩:=ad3 hf m;have hC:jR f j m=(zZ f j m && decide (0<=(jJ f j m).lv) && decide ((jJ f j m).hm<f.gF) && decide (0<=qP f m)):=rfl;have hA:DY f j m=(wT f (sv f m) (jJ f j m).lv && wT f (fP f j).a (fP f j).dep && wT f (fP f j).b (jJ f j m).ar && wT f (sv f m) (jJ f j m).hm):=rfl;have hO:zZ f j m=true->D5 f j m=jJ f j m:=uJ;have v5:=fun h=>hf.ticks (j:=j) (m:=m) v0 jW h;rw [Rl]at v1 hA v5;rw [v7]at oG hA;obtain⟨xa,xc,xd,xv,xw⟩:=x;simp only at v1 hA v5;generalize rR f f.eH.ax.toNat=L at *;have v6:m<L.length:=by omega
 have R9:(m:Int)<L.length:=by omega
 have C5:=C5 v6;have va:=fun p t=>show EI f.met f.mn p t=wT f p t from rfl;clear va;have c1L:∀c:Bool,(c && (w || DY f j m))=(c && (w || DY f j m)):=fun _=>rfl;clear c1L;cases hQ:zZ f j m
 ·rw [hQ]at hC;have hC:jR f j m=false:=hC;simp -dsimp [Tryz.f39,E39,Bk.row];repeat' first|omega|simp -dsimp [E39,Bk.row,nC,hJ,hQ,hC]|apply aI|apply nI|intro
 have hO:=hO hQ;rw [hQ]at hC;generalize jJ f j m=B at *;obtain⟨b1,b2,b3,b4⟩:=B;simp only at hC hA v5 hO;by_cases c1:b1<0
 ·have hC:jR f j m=false:=by rw [hC,decide_eq_false (by omega:¬ 0<=b1)];simp
  simp -dsimp [Tryz.f39,E39,Bk.row];repeat' first|omega|simp -dsimp [E39,Bk.row,nC,hJ,hQ,hO,c1,hC]|apply aI|apply nI|intro
 rw [decide_eq_true (by omega:0<=b1)]at hC;replace c1:(b1<0)=False:=eq_false c1;by_cases c2:f.gF<=b3
 ·have hC:jR f j m=false:=by rw [hC,decide_eq_false (by omega:¬ b3<f.gF)];simp
  simp -dsimp [Tryz.f39,E39,Bk.row];repeat' first|omega|simp -dsimp [E39,Bk.row,nC,hJ,hQ,hO,c1,c2,hC]|apply aI|apply nI|intro
 rw [decide_eq_true (by omega:b3<f.gF)]at hC;replace c2:(f.gF<=b3)=False:=eq_false c2;by_cases c3:Ai f m<0
 ·have hh:qP f m<0:=by rw [<-v9];exact c3
  have hC:jR f j m=false:=by rw [hC,decide_eq_false (by omega:¬ 0<=qP f m)];simp
  simp -dsimp [Tryz.f39,E39,Bk.row];repeat' first|omega|simp -dsimp [E39,Bk.row,nC,hJ,hQ,hO,v4,v6,R9,XZ,C5,ri,c1,c2,c3,hC]|apply aI|apply nI|intro
 have hh:¬ qP f m<0:=by rw [<-v9];exact c3
 replace c3:(Ai f m<0)=False:=eq_false c3;rw [decide_eq_true (by omega:0<=qP f m)]at hC;have hC:jR f j m=true:=hC;obtain⟨_,t1,t2,t3,t4⟩:=v5 hC;have o1:FoP (f,b,b1):=⟨hK,oG,t1⟩
 have o2:FoP (f,xa,xd):=⟨hK,v1.1,t2⟩
 have o3:FoP (f,xc,b2):=⟨hK,v1.2.1,t3⟩
 have o4:FoP (f,b,b3):=⟨hK,oG,t4⟩
 cases w
 case true=>
  simp -dsimp [Tryz.f39,E39,Bk.row];repeat' first|omega|simp -dsimp [E39,hx,hx',hb,hb',v0,jW,v2,oh,Jb.row,Bk.row,nC,hJ,hQ,hO,v4,v6,R9,XZ,C5,ri,aS,c1,c2,c3,hC]|apply aI|apply nI|intro
 cases d1:wT f b b1<;>cases d2:wT f xa xd<;>cases d3:wT f xc b2<;>cases d4:wT f b b3
 all_goals
  simp only [d1,d2,d3,d4,Bool.and_true,Bool.and_false,Bool.true_and,Bool.false_and,Bool.and_self]at hA;simp -dsimp [Tryz.f39,E39,Bk.row];repeat' first|omega|simp -dsimp [E39,hx,hx',hb,hb',v0,jW,v2,oh,Jb.row,Bk.row,nC,hJ,hQ,hO,v4,v6,R9,XZ,C5,ri,aS,c1,c2,c3,o1,o2,o3,o4,d1,d2,d3,d4,hC,hA]|apply aI|apply nI|intro
theorem abS:FO 39 Xb:=pf b39 (.cons akx (.cons aml .nil))
end Go.Sx
end
