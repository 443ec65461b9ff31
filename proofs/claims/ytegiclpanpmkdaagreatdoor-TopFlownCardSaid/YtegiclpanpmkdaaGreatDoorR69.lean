/- A part of a proof; no conditions. -/
import Derived.Test.YtegiclpanpmkdaaGreatDoorR40
import Derived.Test.YtegiclpanpmkdaaGreatDoorR66
import Derived.Test.YtegiclpanpmkdaaGreatDoorR67
set_option linter.all false
set_option maxRecDepth 100000
set_option maxHeartbeats 8000000
noncomputable section
section
namespace Go.Sx
open Go.Proofs
attribute [local simp] ri aa ints
attribute [local irreducible] bA
noncomputable abbrev V8:aB:=bS clE (fun _=>True) fun c=>.bool (jx c)
noncomputable abbrev OM:=EV [(112,.pure aai),(168,.pure bF)] [] 17800 13
theorem aqD:af OM [] Tryz.f178 V8:=pb <| by
 rintro⟨a,b,k,w⟩ _;have e:jx ⟨a,b,k,w⟩=(r9 a b && au k 0 7):=rfl;cases c1:r9 a b<;>cases c2:au k 0 7
 all_goals
  rw [c1,c2]at e;simp -dsimp [Tryz.f178,OM,Cl.row];repeat' first|omega|simp -dsimp [OM,Cl.row,c1,c2,e]|apply aI|apply nI|intro
theorem abo:FO 178 V8:=pf aqD (.cons abC (.cons akZ .nil))
noncomputable abbrev V9:aB:=bS Yi WrP fun d=>ints (jZ d.1 d.2.1 d.2.2.1 d.2.2.2)
noncomputable abbrev afc:=EV [(113,.pure Kw)] [] 17900 50 [(1,[4,7,50004,50007])]
theorem apF:af afc [] Tryz.f179 V9:=pb <| by
 rintro⟨r,l,n,c⟩ ⟨hc,hn,gi⟩;simp only at hc hn gi;obtain⟨hf,aiW,MS⟩:=dN.1 hc;have hv:=Rt.val (Nat.le_refl _) MS;have z7:=Rt.Z8 (r:=r) hf.fN.1 n (Nat.le_refl _) MS;rw [List.take_length]at hv z7;obtain⟨k,rfl⟩:∃k:Nat,n=k:=⟨n.toNat,by omega⟩
 have hk:k<r.bM.length:=by omega
 have v0:(k:Int)<r.bM.length:=by omega
 obtain⟨p,hp,hp'⟩:=gx hk;have z1:mV r k=p:=by simp [mV,List.getD,hp]
 have NG:=hf.p p (by rw [<-hp'];exact List.getElem_mem hk);have adK:0<=p.rat/\p.rat<=255:=by simp only [Pn.ok,Bool.and_eq_true,decide_eq_true_eq]at NG;exact NG.1.1
 have GY:0<=c.gP/\c.gP<=7:=by simp only [jx,Bool.and_eq_true,decide_eq_true_eq]at gi;exact gi.2
 have z2:0<=c.a/\c.a<c.b/\c.b<=2000:=by simp only [jx,Bool.and_eq_true]at gi;exact gQ.1 gi.1
 have yV:=Ie adK GY;have WH:RrP (r,l,⟨k,c.a,c.b⟩):=⟨hf,by simp only;omega,hv,z2⟩
 have y8:HE r l ⟨k,c.a,c.b⟩=brk r (own l k) ⟨k,c.a,c.b⟩:=LZ hf z7 (qC hv k) z2;have hW:jZ r l k c=(if wP p.rat c.gP=true then []else [1])++(if c.vX=true/\p.mW<c.b then [2]else [])++brk r (own l k) ⟨k,c.a,c.b⟩:=by unfold jZ;rw [z1]
 have iq:(brk r (own l k) ⟨k,c.a,c.b⟩).length<=4:=by unfold brk;simp only [List.length_append];split<;>split<;>split<;>split<;>simp
 rw [<-y8]at hW iq;generalize hB:HE r l ⟨k,c.a,c.b⟩=B at *;obtain⟨ca,cb,cc,cw⟩:=c;simp only at GY z2 yV hW hB;have wc:IntKind.wrap .u64 cc=cc:=IV (by omega) (by omega);cases h1:wP p.rat cc<;>rw [h1]at yV hW<;>cases cw<;>rcases Classical.propComplete (p.mW<cb)with h3|h3
 all_goals
  simp only [h3,and_true,and_false,true_and,false_and,if_true,if_false,reduceCtorEq,and_self,List.nil_append,List.cons_append]at yV hW;simp -dsimp [Tryz.f179,afc,Cl.row];repeat' first|omega|simp -dsimp [afc,Cl.row,Pn.row,hk,v0,hp,hp',yV,wc,TA,WH,hB,iq,h3,hW]|apply aI|apply nI|intro
theorem Ve:FO 179 V9:=pf apF (.cons abh .nil)
def Jx(b:Bool):List V:=[.bool b]
def Jy(n:Nat)(mv:Nat->Bool)(k:Nat):List Bool:=(List.range n).map fun i=>if i<k then mv i else false
theorem Mv(n:Nat)(mv:Nat->Bool)(k:Nat):(Jy n mv k).length=n:=by simp [Jy]
theorem Wa(n:Nat)(mv:Nat->Bool):List.replicate n [V.bool false]=(Jy n mv 0).map Jx:=by
 apply List.ext_getElem
 ·simp [Jy]
 ·intro i h1 h2;simp [Jy,Jx]
theorem aaR{n:Nat}(mv:Nat->Bool){k:Nat}(hk:k<n){x:Bool}(hx:mv k=x):((Jy n mv k).map Jx).set k [V.bool x]=(Jy n mv (k+1)).map Jx:=by
 apply List.ext_getElem
 ·simp [Jy]
 ·intro i h1 h2;simp only [List.length_map,Mv]at h2;rw [List.getElem_set];by_cases h:k=i
  ·subst h;rw [if_pos rfl];simp [Jy,Jx,hx]
  ·rw [if_neg h];simp only [Jy,List.getElem_map,List.getElem_range,Jx];by_cases z8:i<k
   ·rw [if_pos z8,if_pos (by omega)]
   ·rw [if_neg z8,if_neg (by omega)]
theorem agi{n:Nat}(mv:Nat->Bool){k:Nat}(hk:k<n):(Jy n mv n)[k]?=some (mv k):=by simp [Jy,hk]
section
variable (r:Ro) (l:List Du) (c:Cl)
theorem OP(i k:Nat):vI r l c i (k+1)=if C7 r l c i k=true then vI r l c i k++[((i:Int),(k:Int))]else vI r l c i k:=by
 unfold vI;rw [List.range_succ,List.filter_append,List.map_append];by_cases h:C7 r l c i k=true
 ·rw [if_pos h];simp [h]
 ·rw [if_neg h];simp [h]
end
theorem Wb(r:Ro)(l:List Du)(n:Int)(c:Cl):(jZ r l n c).length<=10:=by
 unfold jZ brk;simp only [List.length_append];repeat' split
 all_goals simp
noncomputable abbrev Vi:aB:=bS crE (fun d=>(fL d.1 d.2.1).2=0) fun e=>.dB [.sl 2 ((if jx e.2.2=true then tF e.1 e.2.1 e.2.2 else []).map Tk),.int .i64 (if jx e.2.2=true then 0 else 1)]
noncomputable abbrev aeB:=EV [(49,.pure Vj),(178,.pure V8),(179,.pure V9)] [] 12000 99 [(1,[3,5,50003,50005])]
theorem ao4:af aeB [] Tryz.f120 Vi:=pb <| by
 rintro⟨r,l,c⟩ hz;have hz:(fL r l).2=0:=hz;obtain⟨hf,aiW,MS⟩:=dN.1 hz;have zY:MG (r,l):=⟨by have:=hf.n;simp only;omega,by simp only;omega⟩
 cases gi:jx c
 ·simp -dsimp [Tryz.f120,aeB];repeat' first|omega|simp -dsimp [aeB,dw,FE,zY,hz,gi]|apply aI|apply nI|intro
 have y9:∀k:Nat,k<r.bM.length->WrP (r,l,(k:Int),c):=fun k hk=>⟨hz,by simp only;omega,gi⟩
 have y6:=zH r l c;have adM:=hf.n;simp -dsimp [Tryz.f120,aeB];repeat' first|omega|simp -dsimp [aeB,dw,FE,zY,hz,gi]|apply aI|apply nI|intro
 refine ay [31,32,33,34,37,38,39,40,41,42,43,44,45,46,35,36,11] (fun k:{k:Nat // k<=r.bM.length}=>[(11,(true,.int .i64 k.1))]) (fun k=>hps [(12030,{base:=0,ah:=[{z:=1,els:=(Jy r.bM.length (fun i=>(jZ r l i c).isEmpty) k.1).map Jx,ty:=4}]}),(12003,TB r),(12005,TC c)] cg) (fun k=>r.bM.length - k.1) ⟨0,by omega⟩ ?_ ?_ ?_
 ·simp [aj,aT]
 ·simp only [<-Wa];(try simp -dsimp only [hpx]);refine ai ?_;simp -dsimp [aC,TB,TC]<;>exact rz
 rintro⟨k,hk⟩;dsimp only;have v6:=Mv r.bM.length (fun i=>(jZ r l i c).isEmpty) k;by_cases aH:k<r.bM.length
 ·have v0:(k:Int)<r.bM.length:=by omega
  have wk:=wx k;have hW:=y9 k aH;have bE:=fun x (h:(jZ r l k c).isEmpty=x)=>aaR (fun i=>(jZ r l i c).isEmpty) aH h;have z9:k<(Jy r.bM.length (fun i=>(jZ r l i c).isEmpty) k).length:=by omega
  have q3:=Wb r l k c;rcases YJ:jZ r l k c with _|⟨y,ys⟩
  ·have bE:=bE true (by rw [YJ];rfl);simp -dsimp [v0];repeat' first|omega|simp -dsimp [aeB,v0,aH,z9,v6,Jx,FD,hW,YJ,wk]|apply aI|apply nI|intro
   refine⟨k+1,ag rfl ?_,?_,by omega,by omega⟩
   ·simp [aj,aT]
   ·rw [<-bE];(try simp -dsimp only [hpx]);refine ai ?_;simp -dsimp [aC,TB,TC,Jx]<;>exact rz
  ·have bE:=bE false (by rw [YJ];rfl);have hyl:((ys.length:Int)+1 == 0)=false:=(by simp;omega);simp -dsimp [v0];repeat' first|omega|simp -dsimp [aeB,v0,aH,z9,v6,Jx,FD,hW,YJ,hyl,wk]|apply aI|apply nI|intro
   refine⟨k+1,ag rfl ?_,?_,by omega,by omega⟩
   ·simp [aj,aT]
   ·rw [<-bE];(try simp -dsimp only [hpx]);refine ai ?_;simp -dsimp [aC,TB,TC,Jx]<;>exact rz
 have v3:¬ (k:Int)<r.bM.length:=by omega
 have v5:k=r.bM.length:=by omega
 subst v5;have lC:=fun k (hk:k<r.bM.length)=>agi (fun i=>(jZ r l i c).isEmpty) hk;generalize Jy r.bM.length (fun i=>(jZ r l i c).isEmpty) r.bM.length=M at *;simp -dsimp [v3];repeat' first|omega|simp -dsimp [aeB,v3,v6]|apply aI|apply nI|intro
 refine dA [(12,12097,2,90)] rfl (by simp) [47,48,49,50,14,53,54,55,56,59,60,61,62,63,64,65,66,67,68,69,70,71,72,73,74,75,76,77,78,79,80,81,82,83,84,85,86,87,88,89,90,91,92,93,94,95,96,97,12,57,58,51,52,13] (fun i:{i:Nat // i<=r.bM.length}=>[(13,(true,.int .i64 i.1)),(12,(true,.bw 12097 0 (uv r l c i.1).length))]) (fun i=>hps [(12097,{base:=0,ah:=[{z:=2,els:=(uv r l c i.1).map Tk,ty:=90}]}),(12030,{base:=0,ah:=[{z:=1,els:=M.map Jx,ty:=4}]}),(12003,TB r),(12005,TC c)] cg) (fun i=>r.bM.length - i.1) ⟨0,by omega⟩ ?_ ?_ ?_
 ·simp [aj,aT,uv]
 ·(try simp -dsimp only [hpx]);refine ai ?_;simp -dsimp [aC,TB,TC,uv]<;>exact rz
 rintro⟨i,hi⟩;dsimp only;have jU:=uf r l c i;by_cases vs:i<r.bM.length
 case neg=>
  have za:¬ (i:Int)<r.bM.length:=by omega
  have yb:i=r.bM.length:=by omega
  subst yb;simp -dsimp [za];repeat' first|omega|simp -dsimp [aeB,za,y6,v6,gi]|apply aI|apply nI|intro
 have z3:(i:Int)<r.bM.length:=by omega
 have w0i:=wx i;have zd:=lC i vs;have zo:i<M.length:=by omega
 have adN:M[i]=(jZ r l i c).isEmpty:=(List.getElem?_eq_some_iff.1 zd).2;obtain⟨p,hp,hp'⟩:=gx vs;have z1:mV r i=p:=by simp [mV,List.getD,hp]
 have zp:=Cf r l c i;simp -dsimp [z3];repeat' first|omega|simp -dsimp [aeB,z3,vs,zo,v6]|apply aI|apply nI|intro
 refine ay [53,54,55,56,59,60,61,62,63,64,65,66,67,68,69,70,71,72,73,74,75,76,77,78,79,80,81,82,83,84,85,86,87,88,89,90,91,92,93,94,95,96,97,12,57,58,14] (fun j:{j:Nat // j<=r.bM.length}=>[(14,(true,.int .i64 j.1)),(12,(true,.bw 12097 0 ((uv r l c i).length+(vI r l c i j.1).length)))]) (fun j=>hps [(12097,{base:=0,ah:=[{z:=2,els:=(uv r l c i++vI r l c i j.1).map Tk,ty:=90}]}),(12030,{base:=0,ah:=[{z:=1,els:=M.map Jx,ty:=4}]}),(12003,TB r),(12005,TC c)] cg) (fun j=>r.bM.length - j.1) ⟨0,by omega⟩ ?_ ?_ ?_
 ·simp [aj,aT,vI]
 ·(try simp -dsimp only [hpx]);refine ai ?_;simp -dsimp [aC,TB,TC,vI]<;>exact rz
 rintro⟨j,hj⟩;dsimp only;have tf:=GN r l c i j;by_cases v8:j<r.bM.length
 case neg=>
  have zr:¬ (j:Int)<r.bM.length:=by omega
  have AD:j=r.bM.length:=by omega
  subst AD;simp -dsimp [zr];repeat' first|omega|simp -dsimp [aeB,zr,v6,w0i]|apply aI|apply nI|intro
  refine⟨i+1,cq (aN rfl (br rfl (aN rfl bO))) ?_,?_,by omega,by omega⟩
  ·simp [aj,aT,zp]
  ·rw [zp];(try simp -dsimp only [hpx]);refine ai ?_;simp -dsimp [aC,TB,TC]<;>exact rz
 have vx:(j:Int)<r.bM.length:=by omega
 have wj:=wx j;have YK:=lC j v8;have zs:j<M.length:=by omega
 have IA:M[j]=(jZ r l j c).isEmpty:=(List.getElem?_eq_some_iff.1 YK).2;obtain⟨q,hq,EE⟩:=gx v8;have yg:mV r j=q:=by simp [mV,List.getD,hq]
 have D7:=OP r l c i j;have OY:C7 r l c i j=(decide (i≠j) && (decide (2<=p.qV) && (jZ r l i c).isEmpty) && (decide (1<=q.qV) && (jZ r l j c).isEmpty)):=by rw [<-z1,<-yg];rfl
 have an1:(uv r l c i).length<=1000:=by have:i * r.bM.length<=12 * 12:=Nat.mul_le_mul (by omega) adM;omega
 have hb:((uv r l c i).length+(vI r l c i j).length+1) * 16<=140737488355328:=by omega
 rcases Classical.propComplete (i=j)with a1|a1
 ·have a1':=of_eq_true a1;subst a1';rw [OY,decide_eq_false (by simp:¬ i≠i)]at D7;simp only [Bool.false_and,if_false,reduceCtorEq]at D7;simp -dsimp [vx];repeat' first|omega|simp -dsimp [aeB,vx,v8,zs,v6,YK,IA,Jx,wj]|apply aI|apply nI|intro
  refine⟨i+1,ag rfl ?_,?_,by omega,by omega⟩
  ·simp [aj,aT,D7]
  ·rw [D7];(try simp -dsimp only [hpx]);refine ai ?_;simp -dsimp [aC,TB,TC]<;>exact rz
 have a1n:=of_eq_false a1;have a1i:((i:Int) != j)=true:=by simp;omega
 rw [decide_eq_true a1n]at OY;obtain⟨pr,pk,pd⟩:=p;obtain⟨qr,qk,qd⟩:=q;simp only at OY;generalize (jZ r l i c).isEmpty=bi at *;generalize (jZ r l j c).isEmpty=bj at *;rcases Classical.propComplete (2<=pk)with a2|a2<;>rcases Classical.propComplete (1<=qk)with a3|a3<;>cases bi<;>cases bj
 all_goals
  simp only [a2,a3,decide_true,decide_false,Bool.and_true,Bool.and_false,Bool.true_and,Bool.false_and,Bool.and_self]at OY;simp only [OY,if_true,if_false,reduceCtorEq]at D7;simp -dsimp [vx];repeat' first|omega|simp -dsimp [aeB,vx,v8,z3,vs,zo,zs,v6,zd,adN,YK,IA,hp,hp',hq,EE,Pn.row,Jx,a1,a1i,a2,a3,hb,wj]|apply aI|apply nI|intro
  all_goals
   refine⟨j+1,ag rfl ?_,?_,by omega,by omega⟩
   ·simp [aj,aT,D7,Nat.add_assoc]
   ·rw [D7];(try simp -dsimp only [hpx]);refine ai ?_;simp -dsimp [aC,TB,TC,Tk]<;>exact rz
theorem abz:FO 120 Vi:=pf ao4 (.cons alf (.cons abo (.cons Ve .nil)))
end Go.Sx
end
section
namespace Go.Sx
open Go.Proofs
attribute [local simp] ri aa ints
attribute [local irreducible] bA
theorem yW.bko{f:Fl}{x:Sr}(h:yW f x):D5 f x.j.toNat x.m.toNat=ew f x:=uJ h.q
noncomputable abbrev ac9:aB:=bS yU (fun d=>DuP d.1 d.2) fun d=>.sl 3 ((j9 d.1 d.2).map Du.row)
noncomputable abbrev aes:=EV [(118,.pure Ii)] [] 12100 57 [(1,[2,50002])]
theorem aoQ:af aes [(5,([0,3,5,8,10,11],[[0,1,2,3,4,5,6,7,8,9,10,11,12,13,14,15,16,17]]))] Tryz.f121 ac9:=pb <| by
 rintro⟨f,l⟩ ⟨hK,H8,Aa⟩;simp only at hK H8 Aa;have yh:=hK.ok.dul;have h0:j9 f (l.take 0)=f.wF:=by simp [j9]
 have yi:j9 f []=f.wF:=by simp [j9]
 have hlen:=fun k=>qB f (l.take k);simp -dsimp [Tryz.f121,aes];repeat' first|omega|simp -dsimp [aes,yh]|apply aI|apply nI|intro
 refine ay [12,13,14,15,19,20,21,22,23,24,25,26,27,28,29,30,18,31,32,7,8,33,34,35,36,37,38,39,40,41,42,43,44,45,46,47,48,49,50,51,52,53,54,55,5,16,17,6] (fun k:{k:Nat // k<=l.length}=>[(6,(true,.int .i64 k.1)),(5,(true,.bw 12111 0 (j9 f (l.take k.1)).length))]) (fun k=>hps [(12111,{base:=0,ah:=[{z:=3,els:=(j9 f (l.take k.1)).map Du.row,ty:=200}]}),(12107,{base:=k.1,ah:=[]}),(12102,fS f)] cg) (fun k=>l.length - k.1) ⟨0,by omega⟩ ?_ ?_ ?_
 ·simp [aj,aT,yi]
 ·simp only [h0];(try simp -dsimp only [hpx]);refine ai ?_;simp -dsimp [aC,fS]<;>exact rz
 rintro⟨k,hk⟩;dsimp only;have q4:=hlen k;have yl:(l.take k).length<=100:=by simp;omega
 by_cases aH:k<l.length
 ·have v0:(k:Int)<l.length:=by omega
  have wk:=wx k;obtain⟨x,hx,hx'⟩:=gx aH;have hS:=H8 x (hx' ▸ List.getElem_mem aH);have hJ:=hS.jm hK;have hO:=hS.bko;have hq:=hS.q;have xT:=yX f l hx;have z4:GV f x=[⟨x.c,(ew f x).lv,(ew f x).hm⟩,⟨x.k,(ew f x).lv,(ew f x).hm⟩]:=rfl;obtain⟨xj,xm,xc,xk⟩:=x;generalize ew f ⟨xj,xm,xc,xk⟩=B at *;obtain⟨b1,b2,b3,b4⟩:=B;simp only at hJ hO hq z4;generalize zt:j9 f (l.take (k+1))=D1 at *;generalize j9 f (l.take k)=D0 at *;have Aj:(D0.length+2) * 24<=140737488355328:=by omega
  simp -dsimp [v0];repeat' first|omega|simp -dsimp [aes,v0,aH,hx,hx',Sr.row,Bk.row,dS,hJ,hO,hq,Aj,aS,cQ,wk]|apply aI|apply nI|intro
  refine⟨k+1,ag rfl ?_,?_,by omega,by omega⟩
  ·simp [aj,aT,zt,xT,z4]
  ·rw [zt,xT,z4];(try simp -dsimp only [hpx]);refine ai ?_;simp -dsimp [aC,fS,Du.row]<;>exact rz
 have v3:¬ (k:Int)<l.length:=by omega
 have v5:k=l.length:=by omega
 subst v5;rw [List.take_length];simp -dsimp [v3];repeat' first|omega|simp -dsimp [aes,v3]|apply aI|apply nI|intro
theorem vO:FO 121 ac9:=pf aoQ (.cons alz .nil)
noncomputable abbrev ada:aB:=bS Fj (fun d=>DuP d.1 d.2.1) fun d=>.bool (GW d.1 d.2.1 d.2.2.1 d.2.2.2)
def rdK(f:Fl)(l:List Sr)(m t:Int)(k:Nat):Prop:=GW f (l.take k) m t=true
theorem Sm(f:Fl)(l:List Sr)(m t:Int){k:Nat}{x:Sr}(h:l[k]?=some x):GW f (l.take (k+1)) m t=(GW f (l.take k) m t && !decide (x.m=m/\(ew f x).lv<=t/\t<(ew f x).hm)):=by rw [List.take_add_one,h];exact Yb f _ x m t
theorem Yc{f:Fl}{l:List Sr}{m t:Int}{k:Nat}{x:Sr}(h:l[k]?=some x)(hx:x.m=m/\(ew f x).lv<=t/\t<(ew f x).hm):GW f l m t=false:=by unfold GW;rw [Bool.not_eq_false',List.any_eq_true];exact⟨x,List.mem_of_getElem? h,by simpa using hx⟩
noncomputable abbrev EK:=EV [(118,.pure Ii)] [] 18000 52 [(1,[4,50004])]
theorem amF:af EK [(4,([0,3,5,8,10,11],[[0,1,2,3,4,5,6,7,8,9,10,11,12,13,14,15,16,17]]))] Tryz.f180 ada:=pb <| by
 rintro⟨f,l,m,t⟩ ⟨hK,H8,Aa⟩;simp only at hK H8 Aa;simp -dsimp [Tryz.f180,EK];repeat' first|omega|simp -dsimp [EK,hK]|apply aI|apply nI|intro
 refine ay [12,13,14,15,19,20,21,22,23,24,25,26,27,28,29,30,18,31,32,10,11,33,34,35,36,37,38,39,40,41,42,43,44,45,46,47,48,49,50,51,8,16,17,9] (fun k:{k:Nat // k<=l.length/\rdK f l m t k}=>[(9,(true,.int .i64 k.1))]) (fun k=>hps [(18010,{base:=k.1,ah:=[]}),(18004,fS f)] cg) (fun k=>l.length - k.1) ⟨0,by omega,by simp [rdK,GW]⟩ ?_ ?_ ?_
 ·simp [aj,aT]
 ·(try simp -dsimp only [hpx]);refine ai ?_;simp -dsimp [aC,fS]<;>exact rz
 rintro⟨k,hk,v4⟩;dsimp only;by_cases aH:k<l.length
 ·have v0:(k:Int)<l.length:=by omega
  have wk:=wx k;obtain⟨x,hx,hx'⟩:=gx aH;have hS:=H8 x (hx' ▸ List.getElem_mem aH);have hJ:=hS.jm hK;have hO:=hS.bko;have hq:=hS.q;have sQ:=Sm f l m t hx;have v9:=Yc (f:=f) (m:=m) (t:=t) hx;have vV:GW f (l.take k) m t=true:=v4;rw [vV]at sQ;obtain⟨xj,xm,xc,xk⟩:=x;generalize ew f ⟨xj,xm,xc,xk⟩=B at *;obtain⟨b1,b2,b3,b4⟩:=B;simp only at hJ hO hq sQ v9;rcases Classical.propComplete (xm=m)with c1|c1<;>rcases Classical.propComplete (b1<=t)with c2|c2<;>rcases Classical.propComplete (t<b3)with c3|c3
  all_goals
   simp only [c1,c2,c3,and_true,and_false,and_self,decide_true,decide_false,Bool.not_false,Bool.not_true,Bool.and_true,Bool.and_false,true_implies,false_implies]at sQ v9;simp -dsimp [v0];repeat' first|omega|simp -dsimp [EK,v0,aH,hx,hx',Sr.row,Bk.row,dS,hJ,hO,hq,c1,c2,c3,aS,cQ,wk,v9]|apply aI|apply nI|intro
  all_goals
   refine⟨k+1,ag rfl ?_,?_,⟨by omega,sQ⟩,by omega⟩
   ·simp [aj,aT]
   ·(try simp -dsimp only [hpx]);refine ai ?_;simp -dsimp [aC,fS]<;>exact rz
 have v3:¬ (k:Int)<l.length:=by omega
 have v5:k=l.length:=by omega
 subst v5;have vV:GW f (l.take l.length) m t=true:=v4;rw [List.take_length]at vV;simp -dsimp [v3];repeat' first|omega|simp -dsimp [EK,v3,vV]|apply aI|apply nI|intro
theorem ahT:FO 180 ada:=pf amF (.cons alz .nil)
noncomputable abbrev adb:aB:=bS yU (fun d=>DuP d.1 d.2) fun d=>.bool (uZ d.1 d.2)
def cvK(f:Fl)(l:List Sr)(k:Nat):Prop:=∀i:Nat,i<k->Nt f l i=true
theorem Sv{f:Fl}{l:List Sr}{k:Nat}(hk:(k:Int)<f.gF)(h:Nt f l k=false):uZ f l=false:=by unfold uZ;rw [List.all_eq_false];exact⟨k,by simp;omega,by rw [h];simp⟩
theorem Sw{f:Fl}{l:List Sr}{k:Nat}(hk:f.gF<=k)(h:cvK f l k):uZ f l=true:=
 Fk.2 fun t h1 h2=>by
  have:=h t.toNat (by omega)
  rwa [Int.toNat_of_nonneg h1]at this
noncomputable abbrev aeC:=EV [(180,.pure ada)] [] 12200 32 [(1,[2,50002])]
theorem ao5:af aeC [] Tryz.f122 adb:=pb <| by
 rintro⟨f,l⟩ hP;have hP:DuP f l:=hP;have yn:=hP.ok.ok.gF;have ry:f.dU.length<=1000000:=by
  have h1:=hP.ok.ok.dU;have:=(Ij hP.ok.ok.op).small;have h2:=(pS (by
   have:=hP.ok.ok.op;unfold jA at this;split at this
   ·assumption
   ·cases this)).m1
  omega
 simp -dsimp [Tryz.f122,aeC];repeat' first|omega|simp -dsimp [aeC,yn]|apply aI|apply nI|intro
 refine ay [8,9,10,11,6,7,14,15,16,17,18,21,22,23,24,25,26,27,19,20,28,29,30,31,4,12,13,5] (fun k:{k:Nat // (k:Int)<=f.gF/\cvK f l k}=>[(5,(true,.int .i64 k.1))]) (fun _=>hps [(12202,fS f)] cg) (fun k=>f.gF.toNat - k.1) ⟨0,by omega,fun _ h=>by omega⟩ ?_ ?_ ?_
 ·simp [aj,aT]
 ·(try simp -dsimp only [hpx]);refine ai ?_;simp -dsimp [aC,fS]<;>exact rz
 rintro⟨k,hk,v4⟩;dsimp only;by_cases v0:(k:Int)<f.gF
 case neg=>
  have hb:=Sw (by omega) v4;simp -dsimp [v0];repeat' first|omega|simp -dsimp [aeC,v0,hb]|apply aI|apply nI|intro
 have wk:=wx k;simp -dsimp [v0];repeat' first|omega|simp -dsimp [aeC,v0]|apply aI|apply nI|intro
 refine ay [14,15,16,17,18,21,22,23,24,25,26,27,6,19,20,7] (fun m:{m:Nat // m<=f.dU.length}=>[(7,(true,.int .i64 m.1)),(6,(true,.int .i64 (GX f l k m.1)))]) (fun _=>hps [(12202,fS f)] cg) (fun m=>f.dU.length - m.1) ⟨0,by omega⟩ ?_ ?_ ?_
 ·simp [aj,aT,GX]
 ·(try simp -dsimp only [hpx]);refine ai ?_;simp -dsimp [aC,fS]<;>exact rz
 rintro⟨m,hm⟩;dsimp only;have hb:=Su f l k m;by_cases jW:m<f.dU.length
 ·have oh:(m:Int)<f.dU.length:=by omega
  have wm:=wx m;have hN:GX f l k (m+1)=GX f l k m+if GW f l m k=true then 1 else 0:=rfl;generalize yr:GX f l k (m+1)=N1 at *;generalize GX f l k m=N0 at *;have wn:=wi (N0+1);cases c:GW f l m k
  all_goals
   simp only [c,if_true,if_false,reduceCtorEq,Int.add_zero]at hN;simp -dsimp [oh];repeat' first|omega|simp -dsimp [aeC,oh,Nu,hP,c,wm,wn]|apply aI|apply nI|intro
   refine⟨m+1,ag rfl ?_,bA.refl _,by omega,by omega⟩;simp [aj,aT,yr,hN]
 have vy:¬ (m:Int)<f.dU.length:=by omega
 have yv:m=f.dU.length:=by omega
 subst yv;have hT:Nt f l k=decide (f.rU<=GX f l k f.dU.length):=rfl;generalize GX f l k f.dU.length=N at *;by_cases c:N<f.rU
 ·have hb:=Sv v0 (by rw [hT,decide_eq_false (by omega)]);simp -dsimp [vy];repeat' first|omega|simp -dsimp [aeC,vy,c,hb]|apply aI|apply nI|intro
 ·have sQ:cvK f l (k+1):=fun i hi=>by
   by_cases e:i=k
   ·subst e;rw [hT,decide_eq_true (by omega)]
   ·exact v4 i (by omega)
  replace c:(N<f.rU)=False:=eq_false c;simp -dsimp [vy];repeat' first|omega|simp -dsimp [aeC,vy,c,wk]|apply aI|apply nI|intro
  refine⟨k+1,cq (aN rfl (br rfl (aN rfl bO))) ?_,bA.refl _,⟨by omega,sQ⟩,by omega⟩;simp [aj,aT]
theorem abA:FO 122 adb:=pf ao5 (.cons ahT .nil)
theorem aan(a b:NxD)(h:nxE a=nxE b):a=b:=by obtain⟨a1,a2,a3,a4⟩:=a;obtain⟨b1,b2,b3,b4⟩:=b;simp only [nxE,List.cons.injEq,V.agg.injEq,V.sl.injEq,V.bool.injEq,true_and,and_true]at h;rw [Fl.aq _ _ h.1,aR Sr.aq h.2.1,Sr.aq _ _ h.2.2.1,h.2.2.2]
theorem L5(f:Fl)(l:List Sr)(j m c k:Int)(w:Bool):aY nxE [.agg f.row,.sl 4 (l.map Sr.row),.agg [.int .i64 j,.int .i64 m,.int .i64 c,.int .i64 k],.bool w]=⟨f,l,⟨j,m,c,k⟩,w⟩:=aA aan ⟨f,l,⟨j,m,c,k⟩,w⟩
theorem BV(f:Fl)(l:List Sr)(j m c k:Int):aY yU [.agg f.row,.sl 4 (l.map Sr.row++[[.int .i64 j,.int .i64 m,.int .i64 c,.int .i64 k]])]=(f,l++[⟨j,m,c,k⟩]):=by
 have:=gO f (l++[⟨j,m,c,k⟩])
 rwa [List.map_append]at this
noncomputable abbrev afj:aB:=bS nxE NxP fun d=>.bool (wS d.f d.l d.x false)
theorem Good.dup{f:Fl}{any:Bool}{l:List Sr}(hk:Cw f)(h:Good f any l):DuP f l:=⟨hk,h.sr,by have:=(h.len hk.ok).1;omega⟩
theorem aao{f:Fl}{l:List Sr}{s:Sr}(h:NK f l s=true):bQ s.c 0 (f.gv.bM.length - 1)=true/\bQ s.k 0 (f.gv.bM.length - 1)=true:=by unfold NK at h;rw [Bool.and_eq_true,List.contains_iff_mem]at h;obtain⟨h0,h1⟩:=h;unfold tF at h1;obtain⟨a,ha,h2⟩:=List.mem_flatMap.1 h1;obtain⟨b,hb,h3⟩:=List.mem_map.1 h2;have hb':=(List.mem_filter.1 hb).1;simp only [Prod.mk.injEq]at h3;simp only [List.mem_range]at ha hb';simp only [bQ,decide_eq_true_eq];omega
def clK(f:Fl)(s:Sr)(l:List Sr)(k:Nat):Prop:=∀y∈l.take k,Pf f s y=false
def WB(p:Int × Int)(l:List (Int × Int))(k:Nat):Bool:=(l.take k).contains p
theorem Vh{p x:Int × Int}{l:List (Int × Int)}{k:Nat}(h:l[k]?=some x):WB p l (k+1)=(WB p l k || decide (x.1=p.1/\x.2=p.2)):=by
 unfold WB;rw [List.take_add_one,h,Option.toList_some,List.contains_append];congr 1;rw [Bool.eq_iff_iff];simp only [List.contains_iff_mem,List.mem_singleton,decide_eq_true_eq];constructor
 ·rintro rfl;exact⟨rfl,rfl⟩
 ·rintro⟨h1,h2⟩;exact(Prod.ext h1 h2).symm
def Jk(x:Sr):Site:={base:=0,ah:=[{z:=4,els:=[x.row],ty:=56,fz:=true}]}
def AL(x:Bk):Site:={base:=0,ah:=[{z:=4,els:=[x.row],ty:=205}]}
noncomputable abbrev E53:=EV [(50,.pure rgS),(116,.pure U7),(117,.pure U8),(118,.pure Ii),(119,.pure aaa),(121,.pure ac9),(120,.pure Vi),(49,.pure Vj),(122,.pure adb)] [] 5300 243 [(1,[4,6,50004,50006]),(28,[19,50019])]
theorem b53:af E53 [(10,([0,3,5,8,10,11],[[0,1,2,3,4,5,6,7,8,9,10,11,12,13,14,15,16,17]])),(25,([2],[[0,1,2,3,4,5]]))] Tryz.f53 afj:=pb <| by
 rintro⟨f,l,x,w⟩ ⟨hK,hG,hw⟩;simp only at hK hG hw;subst hw;have hf:=hK.ok;have hD:=hG.dup hK;have hlen:=hG.len hf;have H8:=hG.sr;have Ik:=abD hf;have q5:=hf.jobs;have ry:f.dU.length<=1000000:=by
  have h1:=hf.dU;have h2:=(pS (by
   have:=hf.op;unfold jA at this;split at this
   ·assumption
   ·cases this)).m1
  omega
 have hN:wS f l x false=(Xc f x.j x.m && ((jR f x.j.toNat x.m.toNat && (false || DY f x.j.toNat x.m.toNat)) && !(l.any (Pf f x)) && decide ((ew f x).mD+fA f x.m l<=qP f x.m.toNat * f.hour)) && NK f l x && decide ((fL f.gv (j9 f (l++[x]))).2=0) && uZ f (l++[x])):=rfl;have vP:Xc f x.j x.m=(bQ x.j 0 (f.jobs.length - 1) && bQ x.m 0 (f.dU.length - 1)):=rfl;have aap:=aao (f:=f) (l:=l) (s:=x);have w1:=wi ((f.jobs.length:Int) - 1);have w2:=wi ((f.dU.length:Int) - 1);have w3:=wi ((f.gv.bM.length:Int) - 1);obtain⟨xj,xm,xc,xk⟩:=x;simp only at hN vP aap;cases c1:bQ xj 0 (f.jobs.length - 1)
 ·have hN:wS f l ⟨xj,xm,xc,xk⟩ false=false:=by rw [hN,vP,c1];simp
  simp -dsimp [Tryz.f53,E53,Sr.row];repeat' first|omega|simp -dsimp [E53,Sr.row,w1,c1,hN]|apply aI|apply nI|intro
 cases c2:bQ xm 0 (f.dU.length - 1)
 ·have hN:wS f l ⟨xj,xm,xc,xk⟩ false=false:=by rw [hN,vP,c1,c2];simp
  simp -dsimp [Tryz.f53,E53,Sr.row];repeat' first|omega|simp -dsimp [E53,Sr.row,w1,w2,c1,c2,hN]|apply aI|apply nI|intro
 cases c3:bQ xc 0 (f.gv.bM.length - 1)
 ·have hC:NK f l ⟨xj,xm,xc,xk⟩=false:=Bool.eq_false_iff.2 fun h=>by have:=(aap h).1;rw [c3]at this;cases this
  have hN:wS f l ⟨xj,xm,xc,xk⟩ false=false:=by rw [hN,hC];simp
  simp -dsimp [Tryz.f53,E53,Sr.row];repeat' first|omega|simp -dsimp [E53,Sr.row,w1,w2,w3,c1,c2,c3,hN]|apply aI|apply nI|intro
 cases c4:bQ xk 0 (f.gv.bM.length - 1)
 ·have hC:NK f l ⟨xj,xm,xc,xk⟩=false:=Bool.eq_false_iff.2 fun h=>by have:=(aap h).2;rw [c4]at this;cases this
  have hN:wS f l ⟨xj,xm,xc,xk⟩ false=false:=by rw [hN,hC];simp
  simp -dsimp [Tryz.f53,E53,Sr.row];repeat' first|omega|simp -dsimp [E53,Sr.row,w1,w2,w3,c1,c2,c3,c4,hN]|apply aI|apply nI|intro
 clear aap;have r1:0<=xj/\xj<f.jobs.length:=by simp [bQ]at c1;omega
 have r2:0<=xm/\xm<f.dU.length:=by simp [bQ]at c2;omega
 have hJ:Xa (f,xj,xm):=⟨hK,r1,r2⟩
 rw [vP,c1,c2]at hN;cases c5:jR f xj.toNat xm.toNat
 ·have hN:wS f l ⟨xj,xm,xc,xk⟩ false=false:=by rw [hN,c5];simp
  simp -dsimp [Tryz.f53,E53,Sr.row];repeat' first|omega|simp -dsimp [E53,Sr.row,w1,w2,w3,c1,c2,c3,c4,dS,hJ,c5,hN]|apply aI|apply nI|intro
 have zv:JoP (f,xj,xm):=⟨hJ,c5⟩
 rw [c5]at hN;cases c6:DY f xj.toNat xm.toNat
 ·have hN:wS f l ⟨xj,xm,xc,xk⟩ false=false:=by rw [hN,c6];simp
  simp -dsimp [Tryz.f53,E53,Sr.row];repeat' first|omega|simp -dsimp [E53,Sr.row,w1,w2,w3,c1,c2,c3,c4,dS,hJ,zv,c5,c6,hN]|apply aI|apply nI|intro
 rw [c6]at hN;obtain⟨hq,t1,t2,t3,t4⟩:=hf.ticks (j:=xj.toNat) (m:=xm.toNat) (by omega) (by omega) c5;have hO:=uJ hq;have oG:jJ f xj.toNat xm.toNat=ew f ⟨xj,xm,xc,xk⟩:=rfl;rw [oG]at hO t1 t3 t4;have zE:yW f ⟨xj,xm,xc,xk⟩:=by simp only [jR,Bool.and_eq_true,decide_eq_true_eq]at c5;exact⟨⟨r1,by simp only;omega⟩,⟨r2,by simp only;omega⟩,hq,c5.1.1.2,c5.1.2,c5.2⟩
 have v9:=zE.bk hf;have zK:DuP f (l++[⟨xj,xm,xc,xk⟩]):=⟨hK,fun y hy=>by
  rcases List.mem_append.1 hy with h|h
  ·exact H8 y h
  ·exact List.mem_singleton.1 h ▸ zE,by simp;omega⟩
 have apL:=hG.iV hf;have q6:=hf.turn;have qm:=hf.hour;have qT:=yf (f:=f) xm.toNat;have yC:=fun k=>xz hf xm (l:=l.take k) fun y hy=>H8 y (List.mem_of_mem_take hy);have cZ:=fun y=>show Pf f ⟨xj,xm,xc,xk⟩ y=(decide (y.j=xj) || decide (y.m=xm/\(ew f ⟨xj,xm,xc,xk⟩).lv<(ew f y).hm+f.turn) || decide ((ew f ⟨xj,xm,xc,xk⟩).lv<(ew f y).lv) || decide ((ew f ⟨xj,xm,xc,xk⟩).lv=(ew f y).lv/\xj<y.j))from rfl;have va:Im f ⟨xj,xm,xc,xk⟩=⟨(ew f ⟨xj,xm,xc,xk⟩).lv,(ew f ⟨xj,xm,xc,xk⟩).hm,f.lz.getD xm.toNat 0,(fP f xj.toNat).AW⟩:=rfl;have vW:NK f l ⟨xj,xm,xc,xk⟩=(jx (Im f ⟨xj,xm,xc,xk⟩) && (tF f.gv (j9 f l) (Im f ⟨xj,xm,xc,xk⟩)).contains (xc,xk)):=rfl;generalize v7:wS f l ⟨xj,xm,xc,xk⟩ false=N at *;generalize hB:ew f ⟨xj,xm,xc,xk⟩=B at *;obtain⟨b1,b2,b3,b4⟩:=B;simp only at hO v9 hN cZ va;simp -dsimp [Tryz.f53,E53,Sr.row];repeat' first|omega|simp -dsimp [E53,Sr.row,Bk.row,w1,w2,w3,c1,c2,c3,c4,dS,hJ,zv,c5,c6,hO,hq]|apply aI|apply nI|intro
 refine ay [92,93,94,95,99,100,101,102,103,104,105,106,107,108,109,110,98,111,112,13,14,113,114,115,116,117,118,119,120,121,122,123,124,125,126,127,128,129,130,131,132,133,134,135,136,137,138,139,140,141,142,143,144,8,145,146,147,148,149,150,151,152,153,154,155,156,11,157,158,159,160,161,162,163,164,96,97,12] (fun k:{k:Nat // k<=l.length/\clK f ⟨xj,xm,xc,xk⟩ l k}=>[(12,(true,.int .i64 k.1)),(11,(true,.int .i64 (b4+fA f xm (l.take k.1))))]) (fun k=>hps [(5313,{base:=k.1,ah:=[]}),(5309,AL ⟨b1,b2,b3,b4⟩),(5304,fS f),(5306,Jk ⟨xj,xm,xc,xk⟩)] cg) (fun k=>l.length - k.1) ⟨0,by omega,by simp [clK]⟩ ?_ ?_ ?_
 ·simp [aj,aT,fA]
 ·(try simp -dsimp only [hpx]);refine ai ?_;simp -dsimp [aC,fS,Jk,AL,Sr.row,Bk.row]<;>exact rz
 rintro⟨k,hk,v4⟩;dsimp only;have yO:=yC k;have yl:(l.take k).length<=30:=by simp;omega
 by_cases aH:k<l.length
 ·have v0:(k:Int)<l.length:=by omega
  have wk:=wx k;obtain⟨y,hy,hy'⟩:=gx aH;have z5:y∈l:=hy' ▸ List.getElem_mem aH;have z0:=H8 y z5;have vb:=z0.jm hK;have vd:=z0.bko;have vr:=z0.q;have yT:=z0.bk hf;have lC:=NL f xm l hy;have q0:=cZ y;have l7:Pf f ⟨xj,xm,xc,xk⟩ y=true->N=false:=fun h=>by have:l.any (Pf f ⟨xj,xm,xc,xk⟩)=true:=List.any_eq_true.2 ⟨y,z5,h⟩;rw [hN,this];simp
  have sQ:Pf f ⟨xj,xm,xc,xk⟩ y=false->clK f ⟨xj,xm,xc,xk⟩ l (k+1):=fun h=>ug hy v4 h;rw [q0]at l7 sQ;obtain⟨yj,ym,yc,yk⟩:=y;generalize ew f ⟨yj,ym,yc,yk⟩=Y at *;obtain⟨y1,y2,y3,y4⟩:=Y;simp only at vb vd vr yT lC l7 sQ;generalize yB:fA f xm (l.take (k+1))=A1 at *;generalize fA f xm (l.take k)=A0 at *;have v1:=wi (y3+f.turn);have v2:=wi (b4+A0+y4);by_cases d1:yj=xj
  ·have hN:=l7 (by simp [d1]);replace d1:(yj=xj)=True:=eq_true d1;simp -dsimp [v0,AL,fS,Jk];repeat' first|omega|simp -dsimp [E53,v0,aH,hy,hy',AL,Sr.row,Bk.row,dS,vb,vd,vr,aS,cQ,d1,v7,hN]|apply aI|apply nI|intro
  replace d1:(yj=xj)=False:=eq_false d1;by_cases d2:b1<y1
  ·have hN:=l7 (by simp [d2]);simp -dsimp [v0,AL,fS,Jk];repeat' first|omega|simp -dsimp [E53,v0,aH,hy,hy',AL,Sr.row,Bk.row,dS,vb,vd,vr,aS,cQ,d1,d2,v7,hN]|apply aI|apply nI|intro
  replace d2:(b1<y1)=False:=eq_false d2;by_cases d3:b1=y1/\xj<yj
  ·have hN:=l7 (by simp [d3]);obtain⟨d3,d4⟩:=d3;simp -dsimp [v0,AL,fS,Jk];repeat' first|omega|simp -dsimp [E53,v0,aH,hy,hy',AL,Sr.row,Bk.row,dS,vb,vd,vr,aS,cQ,d1,d2,d3,d4,v7,hN]|apply aI|apply nI|intro
  have sQ:¬ (ym=xm/\b1<y3+f.turn)->clK f ⟨xj,xm,xc,xk⟩ l (k+1):=fun h=>sQ (by simp only [d1,d2,d3,h,decide_false,Bool.or_false]);have l7:ym=xm/\b1<y3+f.turn->N=false:=fun h=>l7 (by rw [decide_eq_true h];simp);rcases Classical.propComplete (b1=y1)with d4|d4<;>rcases Classical.propComplete (xj<yj)with d5|d5<;>rcases Classical.propComplete (ym=xm)with d6|d6<;>rcases Classical.propComplete (b1<y3+f.turn)with d7|d7
  all_goals
   simp only [d4,d5,and_true,true_and,and_false,false_and,not_true,not_false_iff]at d3
  all_goals
   simp only [d6,d7,and_true,true_and,and_false,false_and,not_true,not_false_iff,true_implies,false_implies,and_self]at sQ l7;simp only [d6,if_true,if_false]at lC;simp -dsimp [v0,AL,fS,Jk];repeat' first|omega|simp -dsimp [E53,v0,aH,hy,hy',AL,Sr.row,Bk.row,dS,vb,vd,vr,aS,cQ,d1,d2,d4,d5,d6,d7,v1,v2,wk,v7,l7]|apply aI|apply nI|intro
  all_goals
   refine⟨k+1,ag rfl ?_,?_,⟨by omega,sQ⟩,by omega⟩
   ·simp [aj,aT,yB,lC,Int.add_assoc]
   ·(try simp -dsimp only [hpx]);refine ai ?_;simp -dsimp [aC,fS,Jk,AL,Sr.row,Bk.row]<;>exact rz
 have v3:¬ (k:Int)<l.length:=by omega
 have v5:k=l.length:=by omega
 subst v5;have apM:l.any (Pf f ⟨xj,xm,xc,xk⟩)=false:=List.any_eq_false.2 fun y hy=>by rw [v4 y (by rw [List.take_length];exact hy)];simp
 rw [List.take_length]at yO ⊢;rw [apM]at hN;have s9:MaP (f,xm):=⟨hK,r2⟩
 generalize z6:qP f xm.toNat=H at *;generalize hA:fA f xm l=A at *;have q2 : -100<=H * f.hour/\H * f.hour<=10000:=by
  constructor
  ·have:(-1:Int) * f.hour<=H * f.hour:=Int.mul_le_mul_of_nonneg_right (by omega) (by omega);omega
  ·have h1:H * f.hour<=100 * f.hour:=Int.mul_le_mul_of_nonneg_right (by omega) (by omega);omega
 have wm:=wi (H * f.hour);generalize y0:H * f.hour=HH at *;by_cases c7:HH<b4+A
 ·have hN:N=false:=by rw [hN,decide_eq_false (by omega)];simp
  simp -dsimp [v3,AL,fS,Jk];repeat' first|omega|simp -dsimp [E53,v3,AL,Sr.row,Bk.row,zi,s9,z6,y0,wm,c7,v7,hN]|apply aI|apply nI|intro
 rw [decide_eq_true (by omega:b4+A<=HH)]at hN;replace c7:(HH<b4+A)=False:=eq_false c7;obtain⟨WC,rfl⟩:=Int.eq_ofNat_of_zero_le r1.1;obtain⟨Vk,rfl⟩:=Int.eq_ofNat_of_zero_le r2.1;simp only [Int.toNat_natCast]at va z6 v9 hO hq;have v8:WC<f.jobs.length:=by omega
 have jW:Vk<f.lz.length:=by have:=hf.dU;have:=hf.lz;omega
 have apN:(Vk:Int)<f.lz.length:=by omega
 obtain⟨jb,y5,y7⟩:=gx v8;obtain⟨cr,GY,SH⟩:=gx jW;have va:Im f ⟨WC,Vk,xc,xk⟩=⟨b1,b3,cr,jb.AW⟩:=by rw [va];simp [fP,List.getD,y5,GY]
 rw [va]at vW;have hP:∃P:List (Int × Int),P=if jx ⟨b1,b3,cr,jb.AW⟩=true then tF f.gv (j9 f l) ⟨b1,b3,cr,jb.AW⟩else []:=⟨_,rfl⟩
 obtain⟨P,hP⟩:=hP;have vW:NK f l ⟨WC,Vk,xc,xk⟩=WB (xc,xk) P P.length:=by rw [vW,hP,WB,List.take_length];cases jx ⟨b1,b3,cr,jb.AW⟩<;>simp
 have qU:P.length<=1000:=by
  rw [hP];split
  ·rw [<-zH];have h1:=uf f.gv (j9 f l) ⟨b1,b3,cr,jb.AW⟩ f.gv.bM.length;have:f.gv.bM.length * f.gv.bM.length<=12 * 12:=Nat.mul_le_mul Ik Ik;omega
  ·simp
 have q1:jb.row=[.int .i64 jb.a,.int .i64 jb.b,.int .i64 jb.dep,.int .i64 jb.val,.bool jb.AW]:=rfl;rw [vW]at hN;simp -dsimp [v3,AL,fS,Jk];repeat' first|omega|simp -dsimp [E53,v3,AL,Sr.row,Bk.row,zi,s9,z6,y0,wm,c7,y5,y7,GY,SH,v8,jW,apN,q1,ri,gO,hD,Gj,apL,<-hP]|apply aI|apply nI|intro
 refine ay [201,202,203,204,207,208,209,210,211,212,213,214,215,216,217,218,219,17,205,206,18] (fun k:{k:Nat // k<=P.length}=>[(18,(true,.int .i64 k.1)),(17,(true,.bool (WB (xc,xk) P k.1)))]) (fun _=>hps [(5313,{base:=l.length,ah:=[]}),(5309,AL ⟨b1,b2,b3,b4⟩),(5304,fS f),(5306,Jk ⟨WC,Vk,xc,xk⟩)] cg) (fun k=>P.length - k.1) ⟨0,by omega⟩ ?_ ?_ ?_
 ·simp [aj,aT,WB]
 ·(try simp -dsimp only [hpx]);refine ai ?_;simp -dsimp [aC,fS,Jk,AL,Sr.row,Bk.row]<;>exact rz
 rintro⟨k,hk⟩;dsimp only;by_cases aH:k<P.length
 ·have v0:(k:Int)<P.length:=by omega
  have wk:=wx k;obtain⟨y,hy,hy'⟩:=gx aH;have hs:=Vh (p:=(xc,xk)) hy;obtain⟨y1,y2⟩:=y;simp only at hs;generalize wO:WB (xc,xk) P (k+1)=I1 at *;cases hI:WB (xc,xk) P k<;>rw [hI]at hs<;>rcases Classical.propComplete (y1=xc)with d1|d1<;>rcases Classical.propComplete (y2=xk)with d2|d2
  all_goals
   simp only [d1,d2,and_self,and_true,true_and,and_false,false_and,decide_true,decide_false,Bool.or_true,Bool.or_false,Bool.true_or,Bool.false_or]at hs;simp -dsimp [v0,AL,fS,Jk];repeat' first|omega|simp -dsimp [E53,v0,aH,hy,hy',Tk,Sr.row,d1,d2,aS,wk]|apply aI|apply nI|intro
   all_goals
    refine⟨k+1,ag rfl ?_,bA.refl _,by omega,by omega⟩;simp [aj,aT,wO,hs,d1,d2]
 have v3:¬ (k:Int)<P.length:=by omega
 have v5:k=P.length:=by omega
 subst v5;have Aa:(l.length+1) * 32<=140737488355328:=by omega
 cases c8:WB (xc,xk) P P.length<;>rw [c8]at hN
 ·have hN:N=false:=by rw [hN];simp
  simp -dsimp [v3,AL,fS,Jk];repeat' first|omega|simp -dsimp [E53,v3,Sr.row,aS,Aa,v7,hN]|apply aI|apply nI|intro
 have arX:(j9 f (l++[⟨WC,Vk,xc,xk⟩])).length<=1000:=by rw [qB];have:=hf.dul;simp;omega
 have zY:MG (f.gv,j9 f (l++[⟨WC,Vk,xc,xk⟩])):=⟨by simp only;omega,by simp only;omega⟩
 by_cases c9:(fL f.gv (j9 f (l++[⟨WC,Vk,xc,xk⟩]))).2=0
 ·have hN:N=uZ f (l++[⟨WC,Vk,xc,xk⟩]):=by rw [hN,decide_eq_true c9];simp
  cases c10:uZ f (l++[⟨WC,Vk,xc,xk⟩])
  all_goals
   rw [c10]at hN;simp -dsimp [v3,AL,fS,Jk];repeat' first|omega|simp -dsimp [E53,v3,Sr.row,aS,Aa,BV,zK,dw,zY,c9,c10,v7,hN]|apply aI|apply nI|intro
 ·have hN:N=false:=by rw [hN,decide_eq_false c9];simp
  replace c9:((fL f.gv (j9 f (l++[⟨WC,Vk,xc,xk⟩]))).2=0)=False:=eq_false c9;simp -dsimp [v3,AL,fS,Jk];repeat' first|omega|simp -dsimp [E53,v3,Sr.row,aS,Aa,BV,zK,dw,zY,c9,v7,hN]|apply aI|apply nI|intro
theorem akH:FO 53 afj:=pf b53 (.cons ahH (.cons aiC (.cons aly (.cons alz (.cons aiR (.cons vO (.cons abz (.cons alf (.cons abA .nil)))))))))
noncomputable abbrev sM:=EV [(20,.pure afl),(53,.pure afj)] [] 2200 30 [(1,[2,50002])]
theorem b22:af sM [] Tryz.f22 cpS:=pb <| by
 rintro⟨f,l⟩ ⟨hP,hk,hl⟩;simp only at hP hk hl;by_cases e1:Nr f=0
 case neg=>
  have hE:O7 f l=(0,Nr f):=if_neg e1;simp -dsimp [Tryz.f22,sM];repeat' first|omega|simp -dsimp [sM,fC,hP,e1,hE]|apply aI|apply nI|intro
 have hf:=tC.1 e1;have hK:=hk hf;have hE:O7 f l=if YV f l false<0 then (0,0)else (YV f l false,111):=if_pos e1;simp -dsimp [Tryz.f22,sM];repeat' first|omega|simp -dsimp [sM,fC,hP,e1]|apply aI|apply nI|intro
 refine ay [13,14,15,16,19,20,21,22,23,24,25,26,27,28,29,4,5,17,18,7] (fun k:{k:Nat // k<=l.length/\Good f false (l.take k)}=>[(7,(true,.int .i64 k.1))]) (fun _=>hps [(2202,fS f)] cg) (fun k=>l.length - k.1) ⟨0,by omega,by rw [List.take_zero];exact Good.nil⟩ ?_ ?_ ?_
 ·simp [aj,aT]
 ·(try simp -dsimp only [hpx]);refine ai ?_;simp -dsimp [aC,fS]<;>exact rz
 rintro⟨k,hk,v4⟩;dsimp only;by_cases aH:k<l.length
 ·have v0:(k:Int)<l.length:=by omega
  have td:k<=l.length:=by omega
  have wk:=wx k;obtain⟨x,hx,hx'⟩:=gx aH;have O5:l.getD k default=x:=by simp [List.getD,hx]
  have l7:wS f (l.take k) x false=false->YV f l false=k:=fun h=>ad0 aH v4 (by rw [O5];exact h);have sQ:wS f (l.take k) x false=true->Good f false (l.take (k+1)):=fun h=>Good.more aH v4 (by rw [O5];exact h);have Ac:List.take k (l.map Sr.row)=(l.take k).map Sr.row:=by rw [List.map_take]
  generalize l.take k=lk at *;obtain⟨xj,xm,xc,xk⟩:=x;have W4:NxP ⟨f,lk,⟨xj,xm,xc,xk⟩,true⟩:=⟨hK,v4.weak,rfl⟩
  cases c:wS f lk ⟨xj,xm,xc,xk⟩ false
  ·have hb:=l7 c;have hE:O7 f l=((k:Int),111):=(by rw [hE,hb,if_neg (by omega)]);simp -dsimp [v0];repeat' first|omega|simp -dsimp [sM,v0,aH,td,hx,hx',Ac,Sr.row,L5,W4,c,hE]|apply aI|apply nI|intro
  ·have sQ:=sQ c;simp -dsimp [v0];repeat' first|omega|simp -dsimp [sM,v0,aH,td,hx,hx',Ac,Sr.row,L5,W4,c,wk]|apply aI|apply nI|intro
   refine⟨k+1,ag rfl ?_,bA.refl _,⟨by omega,sQ⟩,by omega⟩;simp [aj,aT]
 have v3:¬ (k:Int)<l.length:=by omega
 have v5:k=l.length:=by omega
 subst v5;rw [List.take_length]at v4;have hb:=zI.2 v4;have hE:O7 f l=(0,0):=by rw [hE,hb,if_pos (by omega)]
 simp -dsimp [v3];repeat' first|omega|simp -dsimp [sM,v3,hE]|apply aI|apply nI|intro
theorem apQ:FO 22 cpS:=pf b22 (.cons auN (.cons akH .nil))
end Go.Sx
end
end
