/- A part of a proof; no conditions. -/
import Derived.Test.YtegiclpanpmkdaaGreatDoorP32
import Derived.Test.YtegiclpanpmkdaaGreatDoorP38
import Derived.Test.YtegiclpanpmkdaaGreatDoorP31
set_option linter.all false
set_option maxRecDepth 100000
set_option maxHeartbeats 8000000
noncomputable section
section
namespace Go.Sx
open Go.Proofs
attribute [local simp] ri aa ints
attribute [local irreducible] bA
noncomputable abbrev V8:aB:=bS clE (fun _=>True) fun c=>.bool (jx c)
noncomputable abbrev OM:=EV [(112,.pure aai),(168,.pure bF)] [] 17800 13
theorem aqD:af OM [] Tryz.f178 V8:=pb <| by
 rintro⟨a,b,k,w⟩ _;have e:jx ⟨a,b,k,w⟩=(r9 a b && au k 0 7):=rfl;cases c1:r9 a b<;>cases c2:au k 0 7
 all_goals
  rw [c1,c2]at e;simp -dsimp [Tryz.f178,OM,Cl.row];repeat' (first|omega|simp -dsimp [OM,Cl.row,c1,c2,e]|apply aI|apply nI|intro)
theorem abo:FO 178 V8:=pf aqD (.cons abC (.cons akZ .nil))
structure WrP (d:Ro × List Du × Int × Cl):Prop where
 iV:(fL d.1 d.2.1).2=0
 n:0<=d.2.2.1/\d.2.2.1<=d.1.bM.length - 1
 call:jx d.2.2.2=true
noncomputable abbrev V9:aB:=bS Yi WrP fun d=>ints (jZ d.1 d.2.1 d.2.2.1 d.2.2.2)
noncomputable abbrev afc:=EV [(113,.pure Kw)] [] 17900 50 [(1,[4,7,50004,50007])]
theorem apF:af afc [] Tryz.f179 V9:=pb <| by
 rintro⟨r,l,n,c⟩ ⟨hc,hn,gi⟩;simp only at hc hn gi;obtain⟨hf,aiW,MS⟩:=dN.1 hc;have hv:=Rt.val (Nat.le_refl _) MS;have hdj:=Rt.Z8 (r:=r) hf.fN.1 n (Nat.le_refl _) MS;rw [List.take_length]at hv hdj;obtain⟨k,rfl⟩:∃k:Nat,n=k:=⟨n.toNat,by omega⟩
 have hk:k<r.bM.length:=by omega
 have hki:(k:Int)<r.bM.length:=by omega
 obtain⟨p,hp,hp'⟩:=gx hk;have hpa:mV r k=p:=by simp [mV,List.getD,hp]
 have NG:=hf.p p (by rw [<-hp']; exact List.getElem_mem hk);have adK:0<=p.rat/\p.rat<=255:=by simp only [Pn.ok,Bool.and_eq_true,decide_eq_true_eq]at NG; exact NG.1.1
 have GY:0<=c.gP/\c.gP<=7:=by simp only [jx,Bool.and_eq_true,decide_eq_true_eq]at gi; exact gi.2
 have hst:0<=c.a/\c.a<c.b/\c.b<=2000:=by simp only [jx,Bool.and_eq_true]at gi; exact gQ.1 gi.1
 have yV:=Ie adK GY;have WH:RrP (r,l,⟨k,c.a,c.b⟩):=⟨hf,by simp only; omega,hv,hst⟩
 have hre:HE r l ⟨k,c.a,c.b⟩=brk r (own l k) ⟨k,c.a,c.b⟩:=LZ hf hdj (qC hv k) hst;have hW:jZ r l k c=(if wP p.rat c.gP=true then []else [1])++(if c.vX=true/\p.mW<c.b then [2]else [])++brk r (own l k) ⟨k,c.a,c.b⟩:=by unfold jZ; rw [hpa]
 have iq:(brk r (own l k) ⟨k,c.a,c.b⟩).length<=4:=by unfold brk;simp only [List.length_append];split<;>split<;>split<;>split<;>simp
 rw [<-hre]at hW iq;generalize hB:HE r l ⟨k,c.a,c.b⟩=B at *;obtain⟨ca,cb,cc,cw⟩:=c;simp only at GY hst yV hW hB;have wc:IntKind.wrap .u64 cc=cc:=IV (by omega) (by omega);cases h1:wP p.rat cc<;>rw [h1]at yV hW<;>cases cw<;>rcases Classical.propComplete (p.mW<cb)with h3|h3
 all_goals
  simp only [h3,and_true,and_false,true_and,false_and,if_true,if_false,reduceCtorEq,and_self,List.nil_append,List.cons_append]at yV hW;simp -dsimp [Tryz.f179,afc,Cl.row];repeat' (first|omega|simp -dsimp [afc,Cl.row,Pn.row,hk,hki,hp,hp',yV,wc,TA,WH,hB,iq,h3,hW]|apply aI|apply nI|intro)
theorem Ve:FO 179 V9:=pf apF (.cons abh .nil)
def Jx (b:Bool):List V:=[.bool b]
def Jy (n:Nat) (mv:Nat->Bool) (k:Nat):List Bool:=(List.range n).map fun i=>if i<k then mv i else false
theorem Mv (n:Nat) (mv:Nat->Bool) (k:Nat):(Jy n mv k).length=n:=by simp [Jy]
theorem Wa (n:Nat) (mv:Nat->Bool):List.replicate n [V.bool false]=(Jy n mv 0).map Jx:=by
 apply List.ext_getElem
 ·simp [Jy]
 ·intro i h1 h2;simp [Jy,Jx]
theorem aaR {n:Nat} (mv:Nat->Bool) {k:Nat} (hk:k<n) {x:Bool} (hx:mv k=x):((Jy n mv k).map Jx).set k [V.bool x]=(Jy n mv (k+1)).map Jx:=by
 apply List.ext_getElem
 ·simp [Jy]
 ·intro i h1 h2;simp only [List.length_map,Mv]at h2;rw [List.getElem_set];by_cases h:k=i
  ·subst h;rw [if_pos rfl];simp [Jy,Jx,hx]
  ·rw [if_neg h];simp only [Jy,List.getElem_map,List.getElem_range,Jx];by_cases hik:i<k
   ·rw [if_pos hik,if_pos (by omega)]
   ·rw [if_neg hik,if_neg (by omega)]
theorem agi {n:Nat} (mv:Nat->Bool) {k:Nat} (hk:k<n):(Jy n mv n)[k]?=some (mv k):=by simp [Jy,hk]
section
variable (r:Ro) (l:List Du) (c:Cl)
def vI (i k:Nat):List (Int × Int):=((List.range k).filter fun k:Nat=>C7 r l c i k).map fun k:Nat=>((i:Int),(k:Int))
def uv (i:Nat):List (Int × Int):=(List.range i).flatMap fun i:Nat=>vI r l c i r.bM.length
theorem zH:uv r l c r.bM.length=tF r l c:=rfl
theorem OP (i k:Nat):vI r l c i (k+1)=if C7 r l c i k=true then vI r l c i k++[((i:Int),(k:Int))]else vI r l c i k:=by
 unfold vI;rw [List.range_succ,List.filter_append,List.map_append];by_cases h:C7 r l c i k=true
 ·rw [if_pos h]; simp [h]
 ·rw [if_neg h]; simp [h]
theorem Cf (i:Nat):uv r l c (i+1)=uv r l c i++vI r l c i r.bM.length:=by unfold uv;rw [List.range_succ,List.flatMap_append]; simp
theorem GN (i:Nat):∀k,(vI r l c i k).length<=k:=fun k=>by unfold vI;rw [List.length_map];exact Nat.le_trans (List.length_filter_le _ _) (by simp)
theorem uf:∀i,(uv r l c i).length<=i * r.bM.length
 | 0=>by simp [uv]
 | i+1=>by have:=uf i;have:=GN r l c i r.bM.length;rw [Cf,List.length_append,Nat.add_mul]; omega
end
theorem Wb (r:Ro) (l:List Du) (n:Int) (c:Cl):(jZ r l n c).length<=10:=by
 unfold jZ brk;simp only [List.length_append];repeat' split
 all_goals simp
theorem Gj (r:Ro) (l:List Du) (a b k:Int) (w:Bool):aY crE [.agg r.row,.sl 3 (l.map Du.row),.agg [.int .i64 a,.int .i64 b,.int .i64 k,.bool w]]=(r,l,⟨a,b,k,w⟩):=aA YG (r,l,⟨a,b,k,w⟩)
noncomputable abbrev Vi:aB:=bS crE (fun d=>(fL d.1 d.2.1).2=0) fun e=>.dB [.sl 2 ((if jx e.2.2=true then tF e.1 e.2.1 e.2.2 else []).map Tk),.int .i64 (if jx e.2.2=true then 0 else 1)]
noncomputable abbrev aeB:=EV [(49,.pure Vj),(178,.pure V8),(179,.pure V9)] [] 12000 99 [(1,[3,5,50003,50005])]
theorem ao4:af aeB [] Tryz.f120 Vi:=pb <| by
 rintro⟨r,l,c⟩ hz;have hz:(fL r l).2=0:=hz;obtain⟨hf,aiW,MS⟩:=dN.1 hz;have zY:MG (r,l):=⟨by have:=hf.n; simp only; omega,by simp only; omega⟩
 cases gi:jx c
 ·simp -dsimp [Tryz.f120,aeB];repeat' (first|omega|simp -dsimp [aeB,dw,FE,zY,hz,gi]|apply aI|apply nI|intro)
 have hWP:∀k:Nat,k<r.bM.length->WrP (r,l,(k:Int),c):=fun k hk=>⟨hz,by simp only; omega,gi⟩
 have hend:=zH r l c;have adM:=hf.n;simp -dsimp [Tryz.f120,aeB];repeat' (first|omega|simp -dsimp [aeB,dw,FE,zY,hz,gi]|apply aI|apply nI|intro)
 refine ay [31,32,33,34,37,38,39,40,41,42,43,44,45,46,35,36,11] (fun k:{k:Nat // k<=r.bM.length}=>[(11,(true,.int .i64 k.1))]) (fun k=>hps [(12030,{base:=0,ah:=[{z:=1,els:=(Jy r.bM.length (fun i=>(jZ r l i c).isEmpty) k.1).map Jx,ty:=4}]}),(12003,TB r),(12005,TC c)] cg) (fun k=>r.bM.length - k.1) ⟨0,by omega⟩ ?_ ?_ ?_
 ·simp [aj,aT]
 ·simp only [<-Wa]; (try simp -dsimp only [hpx]); refine ai ?_; simp -dsimp [aC,TB,TC]<;>exact rz
 rintro⟨k,hk⟩;dsimp only;have hml:=Mv r.bM.length (fun i=>(jZ r l i c).isEmpty) k;by_cases aH:k<r.bM.length
 ·have hki:(k:Int)<r.bM.length:=by omega
  have wk:=wx k;have hW:=hWP k aH;have bE:=fun x (h:(jZ r l k c).isEmpty=x)=>aaR (fun i=>(jZ r l i c).isEmpty) aH h;have hkm:k<(Jy r.bM.length (fun i=>(jZ r l i c).isEmpty) k).length:=by omega
  have hwl:=Wb r l k c;rcases YJ:jZ r l k c with _|⟨y,ys⟩
  ·have bE:=bE true (by rw [YJ]; rfl);simp -dsimp [hki];repeat' (first|omega|simp -dsimp [aeB,hki,aH,hkm,hml,Jx,FD,hW,YJ,wk]|apply aI|apply nI|intro)
   refine⟨k+1,ag rfl ?_,?_,by omega,by omega⟩
   ·simp [aj,aT]
   ·rw [<-bE]; (try simp -dsimp only [hpx]); refine ai ?_; simp -dsimp [aC,TB,TC,Jx]<;>exact rz
  ·have bE:=bE false (by rw [YJ]; rfl);have hyl:((ys.length:Int)+1 == 0)=false:=(by simp; omega);simp -dsimp [hki];repeat' (first|omega|simp -dsimp [aeB,hki,aH,hkm,hml,Jx,FD,hW,YJ,hyl,wk]|apply aI|apply nI|intro)
   refine⟨k+1,ag rfl ?_,?_,by omega,by omega⟩
   ·simp [aj,aT]
   ·rw [<-bE]; (try simp -dsimp only [hpx]); refine ai ?_; simp -dsimp [aC,TB,TC,Jx]<;>exact rz
 have hkn:¬ (k:Int)<r.bM.length:=by omega
 have hke:k=r.bM.length:=by omega
 subst hke;have lC:=fun k (hk:k<r.bM.length)=>agi (fun i=>(jZ r l i c).isEmpty) hk;generalize Jy r.bM.length (fun i=>(jZ r l i c).isEmpty) r.bM.length=M at *;simp -dsimp [hkn];repeat' (first|omega|simp -dsimp [aeB,hkn,hml]|apply aI|apply nI|intro)
 refine dA [(12,12097,2,90)] rfl (by simp) [47,48,49,50,14,53,54,55,56,59,60,61,62,63,64,65,66,67,68,69,70,71,72,73,74,75,76,77,78,79,80,81,82,83,84,85,86,87,88,89,90,91,92,93,94,95,96,97,12,57,58,51,52,13] (fun i:{i:Nat // i<=r.bM.length}=>[(13,(true,.int .i64 i.1)),(12,(true,.bw 12097 0 (uv r l c i.1).length))]) (fun i=>hps [(12097,{base:=0,ah:=[{z:=2,els:=(uv r l c i.1).map Tk,ty:=90}]}),(12030,{base:=0,ah:=[{z:=1,els:=M.map Jx,ty:=4}]}),(12003,TB r),(12005,TC c)] cg) (fun i=>r.bM.length - i.1) ⟨0,by omega⟩ ?_ ?_ ?_
 ·simp [aj,aT,uv]
 ·(try simp -dsimp only [hpx]); refine ai ?_; simp -dsimp [aC,TB,TC,uv]<;>exact rz
 rintro⟨i,hi⟩;dsimp only;have jU:=uf r l c i;by_cases hi1:i<r.bM.length
 case neg=>
  have hin:¬ (i:Int)<r.bM.length:=by omega
  have hie:i=r.bM.length:=by omega
  subst hie;simp -dsimp [hin];repeat' (first|omega|simp -dsimp [aeB,hin,hend,hml,gi]|apply aI|apply nI|intro)
 have hii:(i:Int)<r.bM.length:=by omega
 have wi:=wx i;have hxi:=lC i hi1;have hMi:i<M.length:=by omega
 have adN:M[i]=(jZ r l i c).isEmpty:=(List.getElem?_eq_some_iff.1 hxi).2;obtain⟨p,hp,hp'⟩:=gx hi1;have hpa:mV r i=p:=by simp [mV,List.getD,hp]
 have hos:=Cf r l c i;simp -dsimp [hii];repeat' (first|omega|simp -dsimp [aeB,hii,hi1,hMi,hml]|apply aI|apply nI|intro)
 refine ay [53,54,55,56,59,60,61,62,63,64,65,66,67,68,69,70,71,72,73,74,75,76,77,78,79,80,81,82,83,84,85,86,87,88,89,90,91,92,93,94,95,96,97,12,57,58,14] (fun j:{j:Nat // j<=r.bM.length}=>[(14,(true,.int .i64 j.1)),(12,(true,.bw 12097 0 ((uv r l c i).length+(vI r l c i j.1).length)))]) (fun j=>hps [(12097,{base:=0,ah:=[{z:=2,els:=(uv r l c i++vI r l c i j.1).map Tk,ty:=90}]}),(12030,{base:=0,ah:=[{z:=1,els:=M.map Jx,ty:=4}]}),(12003,TB r),(12005,TC c)] cg) (fun j=>r.bM.length - j.1) ⟨0,by omega⟩ ?_ ?_ ?_
 ·simp [aj,aT,vI]
 ·(try simp -dsimp only [hpx]); refine ai ?_; simp -dsimp [aC,TB,TC,vI]<;>exact rz
 rintro⟨j,hj⟩;dsimp only;have tf:=GN r l c i j;by_cases hj1:j<r.bM.length
 case neg=>
  have hjn:¬ (j:Int)<r.bM.length:=by omega
  have AD:j=r.bM.length:=by omega
  subst AD;simp -dsimp [hjn];repeat' (first|omega|simp -dsimp [aeB,hjn,hml,wi]|apply aI|apply nI|intro)
  refine⟨i+1,cq (aN rfl (br rfl (aN rfl bO))) ?_,?_,by omega,by omega⟩
  ·simp [aj,aT,hos]
  ·rw [hos]; (try simp -dsimp only [hpx]); refine ai ?_; simp -dsimp [aC,TB,TC]<;>exact rz
 have hji:(j:Int)<r.bM.length:=by omega
 have wj:=wx j;have YK:=lC j hj1;have hMj:j<M.length:=by omega
 have IA:M[j]=(jZ r l j c).isEmpty:=(List.getElem?_eq_some_iff.1 YK).2;obtain⟨q,hq,EE⟩:=gx hj1;have hqa:mV r j=q:=by simp [mV,List.getD,hq]
 have D7:=OP r l c i j;have OY:C7 r l c i j=(decide (i≠j) && (decide (2<=p.qV) && (jZ r l i c).isEmpty) && (decide (1<=q.qV) && (jZ r l j c).isEmpty)):=by rw [<-hpa,<-hqa]; rfl
 have an1:(uv r l c i).length<=1000:=by have:i * r.bM.length<=12 * 12:=Nat.mul_le_mul (by omega) adM;omega
 have hb:((uv r l c i).length+(vI r l c i j).length+1) * 16<=140737488355328:=by omega
 rcases Classical.propComplete (i=j)with a1|a1
 ·have a1':=of_eq_true a1;subst a1';rw [OY,decide_eq_false (by simp:¬ i≠i)]at D7;simp only [Bool.false_and,if_false,reduceCtorEq]at D7;simp -dsimp [hji];repeat' (first|omega|simp -dsimp [aeB,hji,hj1,hMj,hml,YK,IA,Jx,wj]|apply aI|apply nI|intro)
  refine⟨i+1,ag rfl ?_,?_,by omega,by omega⟩
  ·simp [aj,aT,D7]
  ·rw [D7]; (try simp -dsimp only [hpx]); refine ai ?_; simp -dsimp [aC,TB,TC]<;>exact rz
 have a1n:=of_eq_false a1;have a1i:((i:Int) != j)=true:=by simp; omega
 rw [decide_eq_true a1n]at OY;obtain⟨pr,pk,pd⟩:=p;obtain⟨qr,qk,qd⟩:=q;simp only at OY;generalize (jZ r l i c).isEmpty=bi at *;generalize (jZ r l j c).isEmpty=bj at *;rcases Classical.propComplete (2<=pk)with a2|a2<;>rcases Classical.propComplete (1<=qk)with a3|a3<;>cases bi<;>cases bj
 all_goals
  simp only [a2,a3,decide_true,decide_false,Bool.and_true,Bool.and_false,Bool.true_and,Bool.false_and,Bool.and_self]at OY;simp only [OY,if_true,if_false,reduceCtorEq]at D7;simp -dsimp [hji];repeat' (first|omega|simp -dsimp [aeB,hji,hj1,hii,hi1,hMi,hMj,hml,hxi,adN,YK,IA,hp,hp',hq,EE,Pn.row,Jx,a1,a1i,a2,a3,hb,wj]|apply aI|apply nI|intro)
  all_goals
   refine⟨j+1,ag rfl ?_,?_,by omega,by omega⟩
   ·simp [aj,aT,D7,Nat.add_assoc]
   ·rw [D7]; (try simp -dsimp only [hpx]); refine ai ?_; simp -dsimp [aC,TB,TC,Tk]<;>exact rz
theorem abz:FO 120 Vi:=pf ao4 (.cons alf (.cons abo (.cons Ve .nil)))
end Go.Sx
end
section
namespace Go.Sx
open Go.Proofs
attribute [local simp] ri aa ints
attribute [local irreducible] bA
structure DuP (f:Fl) (l:List Sr):Prop where
 ok:Cw f
 sr:∀x∈l,yW f x
 len:l.length<=100
theorem gu.dul {f:Fl} (h:gu f):f.wF.length<=60:=(dN.1 h.du).2.1
theorem yW.jm {f:Fl} (hk:Cw f) {x:Sr} (h:yW f x):Xa (f,x.j,x.m):=⟨hk,h.j.1,h.m.1⟩
theorem yW.bko {f:Fl} {x:Sr} (h:yW f x):D5 f x.j.toNat x.m.toNat=ew f x:=uJ h.q
noncomputable abbrev ac9:aB:=bS yU (fun d=>DuP d.1 d.2) fun d=>.sl 3 ((j9 d.1 d.2).map Du.row)
noncomputable abbrev aes:=EV [(118,.pure Ii)] [] 12100 57 [(1,[2,50002])]
theorem aoQ:af aes [(5,([0,3,5,8,10,11],[[0,1,2,3,4,5,6,7,8,9,10,11,12,13,14,15,16,17]]))] Tryz.f121 ac9:=pb <| by
 rintro⟨f,l⟩ ⟨hK,H8,Aa⟩;simp only at hK H8 Aa;have hdl:=hK.ok.dul;have h0:j9 f (l.take 0)=f.wF:=by simp [j9]
 have h00:j9 f []=f.wF:=by simp [j9]
 have hlen:=fun k=>qB f (l.take k);simp -dsimp [Tryz.f121,aes];repeat' (first|omega|simp -dsimp [aes,hdl]|apply aI|apply nI|intro)
 refine ay [12,13,14,15,19,20,21,22,23,24,25,26,27,28,29,30,18,31,32,7,8,33,34,35,36,37,38,39,40,41,42,43,44,45,46,47,48,49,50,51,52,53,54,55,5,16,17,6] (fun k:{k:Nat // k<=l.length}=>[(6,(true,.int .i64 k.1)),(5,(true,.bw 12111 0 (j9 f (l.take k.1)).length))]) (fun k=>hps [(12111,{base:=0,ah:=[{z:=3,els:=(j9 f (l.take k.1)).map Du.row,ty:=200}]}),(12107,{base:=k.1,ah:=[]}),(12102,fS f)] cg) (fun k=>l.length - k.1) ⟨0,by omega⟩ ?_ ?_ ?_
 ·simp [aj,aT,h00]
 ·simp only [h0]; (try simp -dsimp only [hpx]); refine ai ?_; simp -dsimp [aC,fS]<;>exact rz
 rintro⟨k,hk⟩;dsimp only;have hlk:=hlen k;have hlt:(l.take k).length<=100:=by simp; omega
 by_cases aH:k<l.length
 ·have hki:(k:Int)<l.length:=by omega
  have wk:=wx k;obtain⟨x,hx,hx'⟩:=gx aH;have hS:=H8 x (hx' ▸ List.getElem_mem aH);have hJ:=hS.jm hK;have hO:=hS.bko;have hq:=hS.q;have xT:=yX f l hx;have hd2:GV f x=[⟨x.c,(ew f x).lv,(ew f x).hm⟩,⟨x.k,(ew f x).lv,(ew f x).hm⟩]:=rfl;obtain⟨xj,xm,xc,xk⟩:=x;generalize ew f ⟨xj,xm,xc,xk⟩=B at *;obtain⟨b1,b2,b3,b4⟩:=B;simp only at hJ hO hq hd2;generalize hD1:j9 f (l.take (k+1))=D1 at *;generalize j9 f (l.take k)=D0 at *;have Aj:(D0.length+2) * 24<=140737488355328:=by omega
  simp -dsimp [hki];repeat' (first|omega|simp -dsimp [aes,hki,aH,hx,hx',Sr.row,Bk.row,dS,hJ,hO,hq,Aj,aS,cQ,wk]|apply aI|apply nI|intro)
  refine⟨k+1,ag rfl ?_,?_,by omega,by omega⟩
  ·simp [aj,aT,hD1,xT,hd2]
  ·rw [hD1,xT,hd2]; (try simp -dsimp only [hpx]); refine ai ?_; simp -dsimp [aC,fS,Du.row]<;>exact rz
 have hkn:¬ (k:Int)<l.length:=by omega
 have hke:k=l.length:=by omega
 subst hke;rw [List.take_length];simp -dsimp [hkn];repeat' (first|omega|simp -dsimp [aes,hkn]|apply aI|apply nI|intro)
theorem vO:FO 121 ac9:=pf aoQ (.cons alz .nil)
noncomputable abbrev ada:aB:=bS Fj (fun d=>DuP d.1 d.2.1) fun d=>.bool (GW d.1 d.2.1 d.2.2.1 d.2.2.2)
def rdK (f:Fl) (l:List Sr) (m t:Int) (k:Nat):Prop:=GW f (l.take k) m t=true
theorem Sm (f:Fl) (l:List Sr) (m t:Int) {k:Nat} {x:Sr} (h:l[k]?=some x):GW f (l.take (k+1)) m t=(GW f (l.take k) m t && !decide (x.m=m/\(ew f x).lv<=t/\t<(ew f x).hm)):=by rw [List.take_add_one,h]; exact Yb f _ x m t
theorem Yc {f:Fl} {l:List Sr} {m t:Int} {k:Nat} {x:Sr} (h:l[k]?=some x) (hx:x.m=m/\(ew f x).lv<=t/\t<(ew f x).hm):GW f l m t=false:=by unfold GW;rw [Bool.not_eq_false',List.any_eq_true];exact⟨x,List.mem_of_getElem? h,by simpa using hx⟩
noncomputable abbrev EK:=EV [(118,.pure Ii)] [] 18000 52 [(1,[4,50004])]
theorem amF:af EK [(4,([0,3,5,8,10,11],[[0,1,2,3,4,5,6,7,8,9,10,11,12,13,14,15,16,17]]))] Tryz.f180 ada:=pb <| by
 rintro⟨f,l,m,t⟩ ⟨hK,H8,Aa⟩;simp only at hK H8 Aa;simp -dsimp [Tryz.f180,EK];repeat' (first|omega|simp -dsimp [EK,hK]|apply aI|apply nI|intro)
 refine ay [12,13,14,15,19,20,21,22,23,24,25,26,27,28,29,30,18,31,32,10,11,33,34,35,36,37,38,39,40,41,42,43,44,45,46,47,48,49,50,51,8,16,17,9] (fun k:{k:Nat // k<=l.length/\rdK f l m t k}=>[(9,(true,.int .i64 k.1))]) (fun k=>hps [(18010,{base:=k.1,ah:=[]}),(18004,fS f)] cg) (fun k=>l.length - k.1) ⟨0,by omega,by simp [rdK,GW]⟩ ?_ ?_ ?_
 ·simp [aj,aT]
 ·(try simp -dsimp only [hpx]); refine ai ?_; simp -dsimp [aC,fS]<;>exact rz
 rintro⟨k,hk,hall⟩;dsimp only;by_cases aH:k<l.length
 ·have hki:(k:Int)<l.length:=by omega
  have wk:=wx k;obtain⟨x,hx,hx'⟩:=gx aH;have hS:=H8 x (hx' ▸ List.getElem_mem aH);have hJ:=hS.jm hK;have hO:=hS.bko;have hq:=hS.q;have sQ:=Sm f l m t hx;have hbd:=Yc (f:=f) (m:=m) (t:=t) hx;have vV:GW f (l.take k) m t=true:=hall;rw [vV]at sQ;obtain⟨xj,xm,xc,xk⟩:=x;generalize ew f ⟨xj,xm,xc,xk⟩=B at *;obtain⟨b1,b2,b3,b4⟩:=B;simp only at hJ hO hq sQ hbd;rcases Classical.propComplete (xm=m)with c1|c1<;>rcases Classical.propComplete (b1<=t)with c2|c2<;>rcases Classical.propComplete (t<b3)with c3|c3
  all_goals
   simp only [c1,c2,c3,and_true,and_false,and_self,decide_true,decide_false,Bool.not_false,Bool.not_true,Bool.and_true,Bool.and_false,true_implies,false_implies]at sQ hbd;simp -dsimp [hki];repeat' (first|omega|simp -dsimp [EK,hki,aH,hx,hx',Sr.row,Bk.row,dS,hJ,hO,hq,c1,c2,c3,aS,cQ,wk,hbd]|apply aI|apply nI|intro)
  all_goals
   refine⟨k+1,ag rfl ?_,?_,⟨by omega,sQ⟩,by omega⟩
   ·simp [aj,aT]
   ·(try simp -dsimp only [hpx]); refine ai ?_; simp -dsimp [aC,fS]<;>exact rz
 have hkn:¬ (k:Int)<l.length:=by omega
 have hke:k=l.length:=by omega
 subst hke;have vV:GW f (l.take l.length) m t=true:=hall;rw [List.take_length]at vV;simp -dsimp [hkn];repeat' (first|omega|simp -dsimp [EK,hkn,vV]|apply aI|apply nI|intro)
theorem ahT:FO 180 ada:=pf amF (.cons alz .nil)
noncomputable abbrev adb:aB:=bS yU (fun d=>DuP d.1 d.2) fun d=>.bool (uZ d.1 d.2)
def cvK (f:Fl) (l:List Sr) (k:Nat):Prop:=∀i:Nat,i<k->Nt f l i=true
theorem Su (f:Fl) (l:List Sr) (t:Int):∀m:Nat,0<=GX f l t m/\GX f l t m<=m
 | 0=>by simp [GX]
 | m+1=>by have:=Su f l t m; rw [GX]; split<;>omega
theorem Sv {f:Fl} {l:List Sr} {k:Nat} (hk:(k:Int)<f.gF) (h:Nt f l k=false):uZ f l=false:=by unfold uZ;rw [List.all_eq_false];exact⟨k,by simp; omega,by rw [h]; simp⟩
theorem Sw {f:Fl} {l:List Sr} {k:Nat} (hk:f.gF<=k) (h:cvK f l k):uZ f l=true:=
 Fk.2 fun t h1 h2=>by
  have:=h t.toNat (by omega)
  rwa [Int.toNat_of_nonneg h1]at this
noncomputable abbrev aeC:=EV [(180,.pure ada)] [] 12200 32 [(1,[2,50002])]
theorem ao5:af aeC [] Tryz.f122 adb:=pb <| by
 rintro⟨f,l⟩ hP;have hP:DuP f l:=hP;have hun:=hP.ok.ok.gF;have ry:f.dU.length<=1000000:=by
  have h1:=hP.ok.ok.dU;have:=(Ij hP.ok.ok.op).small;have h2:=(pS (by
   have:=hP.ok.ok.op;unfold jA at this;split at this
   ·assumption
   ·cases this)).m1
  omega
 simp -dsimp [Tryz.f122,aeC];repeat' (first|omega|simp -dsimp [aeC,hun]|apply aI|apply nI|intro)
 refine ay [8,9,10,11,6,7,14,15,16,17,18,21,22,23,24,25,26,27,19,20,28,29,30,31,4,12,13,5] (fun k:{k:Nat // (k:Int)<=f.gF/\cvK f l k}=>[(5,(true,.int .i64 k.1))]) (fun _=>hps [(12202,fS f)] cg) (fun k=>f.gF.toNat - k.1) ⟨0,by omega,fun _ h=>by omega⟩ ?_ ?_ ?_
 ·simp [aj,aT]
 ·(try simp -dsimp only [hpx]); refine ai ?_; simp -dsimp [aC,fS]<;>exact rz
 rintro⟨k,hk,hall⟩;dsimp only;by_cases hki:(k:Int)<f.gF
 case neg=>
  have hb:=Sw (by omega) hall;simp -dsimp [hki];repeat' (first|omega|simp -dsimp [aeC,hki,hb]|apply aI|apply nI|intro)
 have wk:=wx k;simp -dsimp [hki];repeat' (first|omega|simp -dsimp [aeC,hki]|apply aI|apply nI|intro)
 refine ay [14,15,16,17,18,21,22,23,24,25,26,27,6,19,20,7] (fun m:{m:Nat // m<=f.dU.length}=>[(7,(true,.int .i64 m.1)),(6,(true,.int .i64 (GX f l k m.1)))]) (fun _=>hps [(12202,fS f)] cg) (fun m=>f.dU.length - m.1) ⟨0,by omega⟩ ?_ ?_ ?_
 ·simp [aj,aT,GX]
 ·(try simp -dsimp only [hpx]); refine ai ?_; simp -dsimp [aC,fS]<;>exact rz
 rintro⟨m,hm⟩;dsimp only;have hb:=Su f l k m;by_cases jW:m<f.dU.length
 ·have oh:(m:Int)<f.dU.length:=by omega
  have wm:=wx m;have hN:GX f l k (m+1)=GX f l k m+if GW f l m k=true then 1 else 0:=rfl;generalize hN1:GX f l k (m+1)=N1 at *;generalize GX f l k m=N0 at *;have wn:=wi (N0+1);cases c:GW f l m k
  all_goals
   simp only [c,if_true,if_false,reduceCtorEq,Int.add_zero]at hN;simp -dsimp [oh];repeat' (first|omega|simp -dsimp [aeC,oh,Nu,hP,c,wm,wn]|apply aI|apply nI|intro)
   refine⟨m+1,ag rfl ?_,bA.refl _,by omega,by omega⟩;simp [aj,aT,hN1,hN]
 have hmn:¬ (m:Int)<f.dU.length:=by omega
 have hme:m=f.dU.length:=by omega
 subst hme;have hT:Nt f l k=decide (f.rU<=GX f l k f.dU.length):=rfl;generalize GX f l k f.dU.length=N at *;by_cases c:N<f.rU
 ·have hb:=Sv hki (by rw [hT,decide_eq_false (by omega)]);simp -dsimp [hmn];repeat' (first|omega|simp -dsimp [aeC,hmn,c,hb]|apply aI|apply nI|intro)
 ·have sQ:cvK f l (k+1):=fun i hi=>by
   by_cases e:i=k
   ·subst e; rw [hT,decide_eq_true (by omega)]
   ·exact hall i (by omega)
  replace c:(N<f.rU)=False:=eq_false c;simp -dsimp [hmn];repeat' (first|omega|simp -dsimp [aeC,hmn,c,wk]|apply aI|apply nI|intro)
  refine⟨k+1,cq (aN rfl (br rfl (aN rfl bO))) ?_,bA.refl _,⟨by omega,sQ⟩,by omega⟩;simp [aj,aT]
theorem abA:FO 122 adb:=pf ao5 (.cons ahT .nil)
end Go.Sx
end
section
namespace Go.Sx
theorem Ya {r:Ro} {l:List Du} {c:Cl} (hz:(fL r l).2=0) (hc:jx c=true):Sj r l c=(tF r l c,0):=by
 obtain⟨hf,_,_⟩:=dN.1 hz;have RW:r9 c.a c.b=true/\(0<=c.gP/\c.gP<=7):=by simpa [jx]using hc
 have hs:=gQ.1 RW.1;have h2:gR c=true:=by rw [gR,tG (by omega) (by omega),RW.1]; simp [RW.2]
 have h3:fQ bH r l true=0:=by unfold fQ; rw [mM gZ hz]; rfl
 have hW:∀i k:Nat,Fi bH r l c i k=C7 r l c i k:=fun i k=>by unfold Fi C7; rw [C8 gZ hf (xB hz) hs,C8 gZ hf (xB hz) hs]
 have hL:Sk bH r l c=tF r l c:=by unfold Sk tF; simp only [hW]
 unfold Sj;rw [h2,if_pos h3,hL]
theorem atA {r:Ro} {l:List Du} {c:Cl} (hz:(fL r l).2=0) (hc:jx c=false) (hb : -9223372036854775808<c.b/\c.b<=9223372036854775807):Sj r l c=([],1):=by
 have h2:gR c=false:=by rw [gR,tG hb.1 hb.2]; exact hc
 have h3:fQ bH r l false=1:=by unfold fQ; rw [mM gZ hz]; rfl
 unfold Sj;rw [h2,h3];rfl
theorem asV {r:Ro} (hr:r.ok=true) {l:List Du} (hv:Bi l):gT bH r l=fL r l:=by
 have hf:=Ro.si.1 hr;have h1:∀i,i<l.length->kG bH r l i=ue r l i:=fun i hi=>by
  have hm:cz l i∈l:=by have:cz l i=l[i]:=(by simp [cz,List.getD,hi]);rw [this]; exact List.getElem_mem hi
  have hd:=hv _ hm;have oR:Bi (l.take i):=fun d hd=>hv d (List.mem_of_mem_take hd);unfold kG ue;rw [tG (by omega) (by omega),L3 gZ hf (qC oR _) hd]
 have h2:ar6 bH r l=wh r l:=by
  unfold ar6 wh;by_cases h:eB (List.range l.length) (fun i=>!ue r l i) = -1
  ·rw [h];have hz:=cO (List.range l.length) fun i=>!ue r l i;rw [h]at hz;refine bP _ _ fun j hj=>?_;have hj':j<l.length:=(by simpa using hj);have:=List.any_eq_false.1 (hz.symm.trans (by decide)) j (by simpa using hj');simp only [List.getElem_range];rw [h1 j hj']; simpa using this
  ·obtain⟨k,hk,e,hp,hq⟩:=ve h;rw [e];simp only [List.length_range]at hk;refine cW _ _ (by simpa using hk) ?_ fun j hj hjk=>?_
   ·simp only [List.getElem_range]at hp ⊢;rw [h1 k hk]; exact hp
   ·have:=hq j hj hjk;simp only [List.getElem_range]at this ⊢;rw [h1 j (by simpa using hj)]; exact this
 unfold gT fL;rw [h2]
theorem Nh {f:Fl} {l:List Sr} {m:Int} {k:Nat} {x:Sr} (h:l[k]?=some x):fA f m (l.take (k+1))=fA f m (l.take k)+if x.m=m then (ew f x).mD else 0:=by rw [List.take_add_one,h]; exact qA f m x _
end Go.Sx
end
end
