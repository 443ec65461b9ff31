/- A part of a proof; no conditions. -/
import Derived.Test.YtegiclpanpmkdaaGreatDoorR26
import Derived.Test.YtegiclpanpmkdaaGreatDoorR08
set_option linter.all false
set_option maxRecDepth 100000
set_option maxHeartbeats 8000000
noncomputable section
section
namespace Go.Sx
open Go.Proofs
attribute [local simp] ri aa ints
attribute [local irreducible] bA
noncomputable abbrev afH:=EV [] [] 16800 15
theorem aqd:af afH [] Tryz.f168 bF:=pb <| by rintro⟨n,a,b⟩ _;simp -dsimp [Tryz.f168,afH,au];repeat' first|omega|simp -dsimp [afH, *]|apply aI|apply nI|intro
theorem akZ:FO 168 bF:=pf aqd .nil
theorem afd(r:Ro):r.ok=(decide (r.bM.length<=12) && r.bM.all Pn.ok && au r.lY 1 2000 && au r.fN 0 2000 && au r.win 1 2000 && au r.iW 1 2000 && au r.tot 1 r.win):=rfl
noncomputable abbrev AK:=EV [(168,.pure bF)] [] 11000 69
theorem apG:af AK [] Tryz.f110 NS:=pb <| by
 rintro r hl;have hl:r.bM.length<=100000000000000:=hl;have hr:=afd r;generalize h2:au r.lY 1 2000=b2 at hr;generalize h3:au r.fN 0 2000=b3 at hr;generalize h4:au r.win 1 2000=b4 at hr;generalize h5:au r.iW 1 2000=b5 at hr;generalize h6:au r.tot 1 r.win=b6 at hr;have e0:decide ((12:Int)<r.bM.length)=!decide (r.bM.length<=12):=by
  by_cases h:r.bM.length<=12
  ·rw [decide_eq_true h,decide_eq_false (by omega)];rfl
  ·rw [decide_eq_false h,decide_eq_true (by omega)];rfl
 by_cases v1:decide (r.bM.length<=12) && b2 && b3 && b4 && b5 && b6
 case neg=>
  have hz:r.ok=false:=by rw [hr];cases h:decide (r.bM.length<=12)<;>rw [h]at v1<;>cases b2<;>cases b3<;>cases b4<;>cases b5<;>cases b6<;>simp_all
  have v5:¬ (((((r.bM.length<=12/\b2=true)/\b3=true)/\b4=true)/\b5=true)/\b6=true):=by simpa using v1
  clear v1;simp -dsimp [Tryz.f110,AK,Ro.row,bp];repeat' first|omega|simp -dsimp [AK,Ro.row,bp,h2,h3,h4,h5,h6,hz]|apply aI|apply nI|intro
  rename_i h;exact(v5 ⟨⟨⟨⟨⟨by omega,h.1.1.1.1.2⟩,h.1.1.1.2⟩,h.1.1.2⟩,h.1.2⟩,h.2⟩).elim
 simp only [Bool.and_eq_true,decide_eq_true_eq]at v1;obtain⟨⟨⟨⟨⟨h1,rfl⟩,rfl⟩,rfl⟩,rfl⟩,rfl⟩:=v1;have pI:((12:Int)<r.bM.length)=False:=eq_false (by omega);rw [decide_eq_true h1]at hr;simp only [Bool.true_and,Bool.and_true]at hr;clear e0;simp -dsimp [Tryz.f110,AK,Ro.row,bp];repeat' first|omega|simp -dsimp [AK,Ro.row,bp,h2,h3,h4,h5,h6,pI]|apply aI|apply nI|intro
 refine ay [41,42,43,44,45,48,49,50,51,52,4,53,54,55,56,57,58,59,60,61,62,63,64,65,66,67,68,2,46,47,3] (fun k:{k:Nat // k<=r.bM.length/\∀j (h:j<r.bM.length),j<k->r.bM[j].ok=true}=>[(3,(true,.int .i64 k.1))]) (fun k=>hps [(11004,{base:=k.1,ah:=[]}),(11001,{base:=0,ah:=[{z:=6,els:=[r.row],ty:=41}]})] cg) (fun k=>r.bM.length - k.1) ⟨0,by omega,fun _ _ h=>by omega⟩ ?_ ?_ ?_
 ·simp [aj,aT]
 ·(try simp -dsimp only [hpx]);refine ai ?_;simp -dsimp [aC,Ro.row,bp]<;>exact rz
 rintro⟨k,hk,v3⟩;dsimp only;by_cases aH:k<r.bM.length
 ·have v0:(k:Int)<r.bM.length:=by omega
  have wk:=wx k;obtain⟨p,hp,hp'⟩:=gx aH;have NG:p.ok=(au p.rat 0 255 && au p.qV 0 3 && au p.mW 0 2000):=rfl;have l7:p.ok=false->r.ok=false:=fun h=>by rw [hr,List.all_eq_false];exact⟨p,by rw [<-hp'];exact List.getElem_mem aH,by simp [h]⟩
  generalize g1:au p.rat 0 255=c1 at NG;generalize g2:au p.qV 0 3=c2 at NG;generalize g3:au p.mW 0 2000=c3 at NG;cases c1
  ·have hz:=l7 (by rw [NG];rfl);simp -dsimp [v0];repeat' first|omega|simp -dsimp [AK,Ro.row,bp,Pn.row,v0,aH,hp,hp',g1,hz]|apply aI|apply nI|intro
  cases c2
  ·have hz:=l7 (by rw [NG];rfl);simp -dsimp [v0];repeat' first|omega|simp -dsimp [AK,Ro.row,bp,Pn.row,v0,aH,hp,hp',g1,g2,hz]|apply aI|apply nI|intro
  cases c3
  ·have hz:=l7 (by rw [NG];rfl);simp -dsimp [v0];repeat' first|omega|simp -dsimp [AK,Ro.row,bp,Pn.row,v0,aH,hp,hp',g1,g2,g3,hz]|apply aI|apply nI|intro
  simp -dsimp [v0];repeat' first|omega|simp -dsimp [AK,Ro.row,bp,Pn.row,v0,aH,hp,hp',g1,g2,g3,wk]|apply aI|apply nI|intro
  refine⟨k+1,ag rfl ?_,?_,⟨by omega,fun j h hj=>?_⟩,by omega⟩
  ·simp [aj,aT]
  ·(try simp -dsimp only [hpx]);refine ai ?_;simp -dsimp [aC,Ro.row,bp]<;>exact rz
  ·by_cases v6:j=k
   ·subst v6;rw [hp',NG];rfl
   ·exact v3 j h (by omega)
 ·have v2:¬ (k:Int)<r.bM.length:=by omega
  have hz:r.ok=true:=by rw [hr,List.all_eq_true];intro p hp;obtain⟨j,hj,rfl⟩:=List.getElem_of_mem hp;exact v3 j hj (by omega)
  simp -dsimp [v2];repeat' first|omega|simp -dsimp [AK,Ro.row,bp,v2,hz]|apply aI|apply nI|intro
theorem akE:FO 110 NS:=pf apG (.cons akZ .nil)
abbrev aai:aB:={dom:=Int × Int,enc:=fun d=>[.int .i64 d.1,.int .i64 d.2],dec:=fun l=>((l.getD 0 .top).toInt,(l.getD 1 .top).toInt),pre:=fun _=>True,res:=fun d=>.bool (r9 d.1 d.2)}
noncomputable abbrev afe:=EV [] [] 11200 16
theorem apH:af afe [] Tryz.f112 aai:=pb <| by
 rintro⟨a,b⟩ _;have hS:r9 a b=(decide (0<=a) && decide (a<b) && decide (b<=2000)):=by rw [Bool.eq_iff_iff,gQ];simp [and_assoc]
 simp -dsimp [Tryz.f112,afe,hS];repeat' first|omega|simp -dsimp [afe,hS]|apply aI|apply nI|intro
theorem abC:FO 112 aai:=pf apH .nil
@[simp] def peE(d:Ro × Int):List V:=[.agg d.1.row,.int .i64 d.2]
theorem aaj(a b:Ro × Int)(h:peE a=peE b):a=b:=by obtain⟨a1,a2⟩:=a;obtain⟨b1,b2⟩:=b;simp only [peE,List.cons.injEq,V.agg.injEq,V.int.injEq,true_and,and_true]at h;rw [Ro.aq _ _ h.1,h.2]
theorem kP(r:Ro)(n:Int):aY peE [.agg [.sl 3 (r.bM.map Pn.row),.int .i64 r.lY,.int .i64 r.fN,.int .i64 r.win,.int .i64 r.tot,.int .i64 r.iW],.int .i64 n]=(r,n):=aA aaj (r,n)
noncomputable abbrev aff:aB:=bS peE (fun d=>d.1.bM.length<=100000000000000) fun d=>.bool (U4 d.1 d.2)
noncomputable abbrev afg:=EV [(168,.pure bF)] [] 11100 11
theorem apI:af afg [] Tryz.f111 aff:=pb <| by rintro⟨r,n⟩ hl;have hl:r.bM.length<=100000000000000:=hl;have v7:IntKind.wrap .i64 ((r.bM.length:Int) - 1)=r.bM.length - 1:=aK (by omega) (by omega);have hP:U4 r n=au n 0 (r.bM.length - 1):=rfl;simp -dsimp [Tryz.f111,afg,Ro.row,bp];repeat' first|omega|simp -dsimp [afg,Ro.row,bp,v7,hP]|apply aI|apply nI|intro
theorem akF:FO 111 aff:=pf apI (.cons akZ .nil)
def DZ(d:Du):Prop:=0<=d.a/\d.a<d.b/\d.b<=2000
@[simp] def Pa(d:Du × Int × Int × Int):List V:=[.sl 3 [d.1.row],.int .i64 d.2.1,.int .i64 d.2.2.1,.int .i64 d.2.2.2]
theorem Dw(a b:Du × Int × Int × Int)(h:Pa a=Pa b):a=b:=by obtain⟨a1,a2,a3,a4⟩:=a;obtain⟨b1,b2,b3,b4⟩:=b;simp only [Pa,List.cons.injEq,V.sl.injEq,V.int.injEq,true_and,and_true]at h;rw [Du.aq _ _ h.1,h.2.1,h.2.2.1,h.2.2.2]
theorem nT(d:Du)(n x y:Int):aY Pa [.sl 3 [[.int .i64 d.p,.int .i64 d.a,.int .i64 d.b]],.int .i64 n,.int .i64 x,.int .i64 y]=(d,n,x,y):=aA Dw (d,n,x,y)
structure BsP (e:Du × Int × Int × Int):Prop where
 d:DZ e.1
 x : -100000<=e.2.2.1/\e.2.2.1<=100000
 y : -100000<=e.2.2.2/\e.2.2.2<=100000
noncomputable abbrev afh:aB:=bS Pa BsP fun d=>.int .i64 (if d.1.p=d.2.1 then gA d.1 d.2.2.1 d.2.2.2 else 0)
noncomputable abbrev awl:=EV [] [] 27300 43
theorem aAc:af awl [] Tryz.f273 afh:=pb <| by
 rintro⟨d,n,x,y⟩ ⟨⟨v8,v9,Cx⟩,hx,hy⟩;simp only at v8 v9 Cx hx hy;obtain⟨b,hb⟩:∃b,gA d x y=b:=⟨_,rfl⟩
 have hB:max 0 (min y d.b - max x d.a)=b:=hb;have Aj:0<=b/\b<=200000:=by omega
 obtain⟨m1,jW⟩:∃m,(if d.b<y then d.b else y)=m:=⟨_,rfl⟩
 obtain⟨m2,v4⟩:∃m,(if x<d.a then d.a else x)=m:=⟨_,rfl⟩
 have e1:m1=min y d.b:=by rw [<-jW];split<;>omega
 have e2:m2=max x d.a:=by rw [<-v4];split<;>omega
 have w1:=wi (m1 - m2);have e3:(if 0<m1 - m2 then m1 - m2 else 0)=b:=by rw [<-hB,e1,e2];split<;>omega
 have e3':(if m2<m1 then m1 - m2 else 0)=b:=by rw [<-hB,e1,e2];split<;>omega
 have w2:IntKind.wrap .i64 b=b:=aK (by omega) (by omega);have w3:IntKind.wrap .i64 1=1:=aK (by omega) (by omega);clear e1 e2;simp -dsimp [Tryz.f273,awl,Du.row];by_cases hp:d.p=n
 ·rw [hb];refine ay [11,12,13,14,17,18,19,20,21,22,23,24,25,26,27,28,29,30,31,32,33,34,35,36,37,38,39,40,41,9,15,16,10] (fun k:Bool=>[(10,(true,.int .i64 (if k then 1 else 0))),(9,(true,.int .i64 (if k then b else 0)))]) (fun _=>cg) (fun k=>if k then 0 else 1) false ?_ (bA.refl _) ?_
  ·simp [aj,aT]
  rintro(_|_)
  ·simp -dsimp [];repeat' first|omega|simp -dsimp [awl,hp,jW,v4,w1,e3,e3',w2,w3]|apply aI|refine oI fun _=>?_|apply nI
   ·exact ag rfl (by simp [aj,aT])
   ·exact bA.refl _
  ·simp -dsimp [];repeat' first|omega|simp -dsimp [awl,hp]|apply aI|apply nI|intro
 ·have hp':(d.p=n)=False:=eq_false hp;refine ay [11,12,13,14,17,18,19,20,21,22,23,24,25,26,27,28,29,30,31,32,33,34,35,36,37,38,39,40,41,9,15,16,10] (fun k:Bool=>[(10,(true,.int .i64 (if k then 1 else 0))),(9,(true,.int .i64 0))]) (fun _=>cg) (fun k=>if k then 0 else 1) false ?_ (bA.refl _) ?_
  ·simp [aj,aT]
  rintro(_|_)
  ·simp -dsimp [];repeat' first|omega|simp -dsimp [awl,hp',w3]|apply aI|refine oI fun _=>?_|apply nI
   ·exact ag rfl (by simp [aj,aT])
   ·exact bA.refl _
  ·simp -dsimp [];repeat' first|omega|simp -dsimp [awl,hp']|apply aI|apply nI|intro
theorem azu:FO 273 afh:=pf aAc .nil
def j7(d:Du)(x y:Int)(l:List Du):Nat->Int
 | 0=>gA d x y
 | k+1=>if (cz l k).p=d.p then j7 d x y l k+(gA (cz l k) x y - gA (cz l k) (max x d.a) (min y d.b))else j7 d x y l k
theorem Vf(d:Du)(x y:Int)(l:List Du):∀k,k<=l.length->D3 d x y (l.drop k) (j7 d x y l k)=D3 d x y l (gA d x y)
 | 0,_=>rfl
 | k+1,hk=>by
  have ih:=Vf d x y l k (by omega);rw [List.drop_eq_getElem_cons (show k<l.length by omega),D3]at ih;have e:l[k]'(by omega)=cz l k:=by simp [cz,List.getD,show k<l.length by omega]
  rw [e]at ih;rw [<-ih,j7]
theorem aak(d:Du)(x y:Int)(l:List Du):j7 d x y l l.length=D3 d x y l (gA d x y):=by have:=Vf d x y l l.length (Nat.le_refl _);rw [List.drop_length]at this;exact this
theorem zG{d:Du}(h:DZ d){x y:Int}(hx : -100000<=x/\x<=100000)(hy : -100000<=y/\y<=100000):0<=gA d x y/\gA d x y<=200000:=by unfold DZ at h;unfold gA;omega
theorem Gi{d:Du}(hd:DZ d){l:List Du}(hl:Bi l){x y:Int}(hx : -100000<=x/\x<=100000)(hy : -100000<=y/\y<=100000):∀k,k<=l.length->-(200000 * ((k:Int)+1))<=j7 d x y l k/\j7 d x y l k<=200000 * ((k:Int)+1)
 | 0,_=>by have:=zG hd hx hy;simp only [j7];omega
 | k+1,hk=>by
  have ih:=Gi hd hl hx hy k (by omega);have hz:DZ (cz l k):=by have:cz l k=l[k]'(by omega):=(by simp [cz,List.getD,show k<l.length by omega]);rw [this];exact hl _ (List.getElem_mem _)
  have b1:=zG hz hx hy;have b2:=zG hz (x:=max x d.a) (y:=min y d.b) (by unfold DZ at hd;omega) (by unfold DZ at hd;omega);simp only [j7];split<;>omega
@[simp] def beE(d:List Du × Du × Int × Int):List V:=[.sl 3 (d.1.map Du.row),.agg d.2.1.row,.int .i64 d.2.2.1,.int .i64 d.2.2.2]
theorem aal(a b:List Du × Du × Int × Int)(h:beE a=beE b):a=b:=by obtain⟨a1,a2,a3,a4⟩:=a;obtain⟨b1,b2,b3,b4⟩:=b;simp only [beE,List.cons.injEq,V.sl.injEq,V.agg.injEq,V.int.injEq,true_and,and_true]at h;rw [aR Du.aq h.1,Du.aq _ _ h.2.1,h.2.2.1,h.2.2.2]
theorem ast(l:List Du)(d:Du)(x y:Int):aY beE [.sl 3 (l.map Du.row),.agg [.int .i64 d.p,.int .i64 d.a,.int .i64 d.b],.int .i64 x,.int .i64 y]=(l,d,x,y):=aA aal (l,d,x,y)
structure BeP (e:List Du × Du × Int × Int):Prop where
 n:e.1.length<=1000
 l:Bi e.1
 d:DZ e.2.1
 x : -10000<=e.2.2.1/\e.2.2.1<=10000
 y : -10000<=e.2.2.2/\e.2.2.2<=10000
noncomputable abbrev acr:aB:=bS beE BeP fun d=>.int .i64 (D3 d.2.1 d.2.2.1 d.2.2.2 d.1 (gA d.2.1 d.2.2.1 d.2.2.2))
noncomputable abbrev aer:=EV [(273,.pure afh)] [] 22800 58
theorem aoO:af aer [] Tryz.f228 acr:=pb <| by
 rintro⟨l,d,x,y⟩ ⟨hn,hl,hd,hx,hy⟩;simp only at hn hl hd hx hy;have hE:=aak d x y l;have va:=hd;unfold DZ at va;have p0:BsP (d,d.p,x,y):=⟨hd,by simp only;omega,by simp only;omega⟩
 have vb:=nT d d.p x y;simp -dsimp [Tryz.f228,aer,Du.row];repeat' first|omega|simp -dsimp [aer,Du.row,vb,p0]|apply aI|apply nI|intro
 refine ay [19,20,21,22,25,26,27,28,11,29,30,31,32,33,34,35,36,37,38,39,40,41,42,43,44,45,46,47,48,49,50,51,52,53,54,55,56,9,23,24,10] (fun k:{k:Nat // k<=l.length}=>[(10,(true,.int .i64 k.1)),(9,(true,.int .i64 (j7 d x y l k.1)))]) (fun k=>hps [(22811,{base:=k.1,ah:=[]}),(22805,{base:=0,ah:=[{z:=3,els:=[d.row],ty:=200}]})] cg) (fun k=>l.length - k.1) ⟨0,by omega⟩ ?_ ?_ ?_
 ·simp [aj,aT,j7]
 ·(try simp -dsimp only [hpx]);refine ai ?_;simp -dsimp [aC,Du.row]<;>exact rz
 rintro⟨k,hk⟩;dsimp only;by_cases aH:k<l.length
 ·have v0:(k:Int)<l.length:=by omega
  have wk:=wx k;obtain⟨z,hz,Eh⟩:=gx aH;have vd:cz l k=z:=by simp [cz,List.getD,hz]
  have hzv:DZ z:=by rw [<-Eh];exact hl _ (List.getElem_mem aH)
  have vs:=Gi hd hl (x:=x) (y:=y) (by omega) (by omega) k hk;have hS:j7 d x y l (k+1)=if z.p=d.p then j7 d x y l k+(gA z x y - gA z (max x d.a) (min y d.b))else j7 d x y l k:=by rw [j7,vd]
  by_cases hp:z.p=d.p
  ·rw [if_pos hp]at hS;have b1:=zG hzv (x:=x) (y:=y) (by omega) (by omega);have b2:=zG hzv (x:=max x d.a) (y:=min y d.b) (by omega) (by omega);have p1:BsP (z,d.p,x,y):=⟨hzv,by simp only;omega,by simp only;omega⟩
   have p2:BsP (z,d.p,max x d.a,min y d.b):=⟨hzv,by simp only;omega,by simp only;omega⟩
   have d1:=nT z d.p x y;have d2:=nT z d.p (max x d.a) (min y d.b);rw [hp]at d1 d2;have e1:(if d.b<y then d.b else y)=min y d.b:=(by split<;>omega);have e2:(if x<d.a then d.a else x)=max x d.a:=(by split<;>omega);generalize MX:gA z x y=u1 at *;generalize Ku:gA z (max x d.a) (min y d.b)=u2 at *;generalize max x d.a=mx at *;generalize min y d.b=mn at *;have w1:=wi (u1 - u2);have w2:IntKind.wrap .i64 (j7 d x y l k+(u1 - u2))=j7 d x y l (k+1):=(by rw [hS];exact aK (by omega) (by omega));simp -dsimp [v0];repeat' first|omega|simp -dsimp [aer,Du.row,v0,aH,hz,Eh,hp,d1,d2,p1,p2,e1,e2,MX,Ku,w1,w2,wk]|apply aI|apply nI|intro
   refine⟨k+1,ag rfl ?_,?_,by omega,by omega⟩
   ·simp [aj,aT]
   ·(try simp -dsimp only [hpx]);refine ai ?_;simp -dsimp [aC,Du.row]<;>exact rz
  ·rw [if_neg hp]at hS;have hp':(z.p=d.p)=False:=eq_false hp;simp -dsimp [v0];repeat' first|omega|simp -dsimp [aer,Du.row,v0,aH,hz,Eh,hp',wk]|apply aI|apply nI|intro
   refine⟨k+1,ag rfl ?_,?_,by omega,by omega⟩
   ·simp [aj,aT,hS]
   ·(try simp -dsimp only [hpx]);refine ai ?_;simp -dsimp [aC,Du.row]<;>exact rz
 ·have v2:¬ (k:Int)<l.length:=by omega
  have vr:k=l.length:=by omega
  subst vr;simp -dsimp [v2];repeat' first|omega|simp -dsimp [aer,v2,hE]|apply aI|apply nI|intro
theorem aj0:FO 228 acr:=pf aoO (.cons azu .nil)
end Go.Sx
end
end
