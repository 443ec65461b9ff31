/- A part of a proof; no conditions. -/
import Derived.Test.YtegiclpanpmkdaaGreatDoorR23
import Derived.Test.YtegiclpanpmkdaaGreatDoorR24
set_option linter.all false
set_option maxRecDepth 100000
set_option maxHeartbeats 8000000
noncomputable section
section
namespace Go.Sx
open Go.Proofs
attribute [local simp] ri aa ints
attribute [local irreducible] bA
theorem Oo(m:Met)(p t:Int)(n:Nat):je m p t (n+1)=if Am m p t n=true then sink (lX.fc m).key (je m p t n++[n]) (je m p t n).length else je m p t n:=by
 unfold je;rw [Bg];split
 ·rw [vA];rfl
 ·rw [List.append_nil]
theorem Oq(m:Met)(p t:Int)(n:Nat):jf m p t (n+1)=if wL m p t n=true then sink (lX.sg m).key (jf m p t n++[n]) (jf m p t n).length else jf m p t n:=by
 unfold jf;rw [aAL];split
 ·rw [vA];rfl
 ·rw [List.append_nil]
theorem aar{m:Met}{p t:Int}{n x:Nat}(h:x∈je m p t n):x<n:=(CJ (mQ.1 h)).1
theorem aas{m:Met}{p t:Int}{n x:Nat}(h:x∈jf m p t n):x<n:=(xo (mQ.1 h)).1
theorem Vv(m:Met)(p t:Int)(n:Nat):(je m p t n).length<=n:=by rw [je,jV];exact tn m p t n
theorem Vw(m:Met)(p t:Int)(n:Nat):(jf m p t n).length<=n:=by rw [jf,jV];exact tr m p t n
noncomputable abbrev afx:aB:=bS Xn MlP fun d=>.sl 1 ((je d.1 d.2.1 d.2.2 d.1.fs.length).map nR)
noncomputable abbrev avb:=EV [] [] 29100 89 [(1,[3,50003])]
theorem az8:af avb [] Tryz.f291 afx:=pb <| by
 rintro⟨m,p,t⟩ ⟨hf,hs⟩;simp only at hf hs;simp -dsimp [Tryz.f291,avb];repeat' first|omega|simp -dsimp [avb, *]|apply aI|apply nI|intro
 refine dA [(7,29142,1,3)] rfl (by simp) [11,12,13,14,15,18,19,20,21,22,9,23,24,25,26,27,28,29,30,31,32,33,34,35,36,37,38,39,40,41,42,7,43,44,45,10,46,47,48,49,50,51,52,53,54,55,56,57,58,59,60,61,62,63,64,65,66,67,68,69,72,73,74,75,76,77,78,79,80,81,82,83,84,85,86,87,70,71,16,17,8] (fun k:{k:Nat // k<=m.fs.length}=>[(8,(true,.int .i64 k.1)),(7,(true,.bw 29142 0 (je m p t k.1).length))]) (fun k=>hps [(29109,{base:=k.1,ah:=[]}),(29142,{base:=0,ah:=[dP (je m p t k.1)]}),(29103,mS m)] cg) (fun k=>m.fs.length - k.1) ⟨0,by omega⟩ ?_ ?_ ?_
 ·simp [aj,aT,je,lW,fT]
 ·(try simp -dsimp only [hpx]);refine ai ?_;simp -dsimp [aC,dP,je,lW,fT,mS]<;>exact rz
 rintro⟨i,hi⟩;dsimp only;have hS:=Oo m p t i;have hlen:=Vv m p t i;have vy:=fun x (hx:x∈je m p t i)=>aar hx;generalize hN:je m p t (i+1)=N at *;by_cases v3:i<m.fs.length
 case neg=>
  have va:¬ (i:Int)<m.fs.length:=by omega
  have vP:i=m.fs.length:=by omega
  subst vP;clear hS hN;simp -dsimp [va];repeat' first|omega|simp -dsimp [avb,va,dP]|apply aI|apply nI|intro
 generalize je m p t i=K0 at *;have v0:(i:Int)<m.fs.length:=by omega
 have w0i:=wx i;obtain⟨x,hx,hx'⟩:=gx v3;have lC:lD m i=x:=by simp [lD,List.getD,hx]
 have v4:Am m p t i=false->N=K0:=fun h=>by rw [hS,h,if_neg (by simp)]
 have v5:Am m p t i=decide (x.pl=p/\x.a<=t/\t<x.b):=by rw [Am,lC]
 by_cases c1:x.pl=p
 case neg=>
  have Ma:=v4 (by rw [v5];simp [c1]);have Kv:(x.pl=p)=False:=eq_false c1;simp -dsimp [v0];repeat' first|omega|simp -dsimp [avb,v0,v3,hx,hx',Fc.row,Kv,w0i]|apply aI|apply nI|intro
  refine⟨i+1,ag rfl ?_,?_,by omega,by omega⟩
  ·simp [aj,aT,hN,Ma]
  ·rw [hN,Ma];(try simp -dsimp only [hpx]);refine ai ?_;simp -dsimp [aC]<;>exact rz
 by_cases c2:t<x.a
 case pos=>
  have Ma:=v4 (by rw [v5];simp;omega);simp -dsimp [v0];repeat' first|omega|simp -dsimp [avb,v0,v3,hx,hx',Fc.row,c1,c2,w0i]|apply aI|apply nI|intro
  refine⟨i+1,ag rfl ?_,?_,by omega,by omega⟩
  ·simp [aj,aT,hN,Ma]
  ·rw [hN,Ma];(try simp -dsimp only [hpx]);refine ai ?_;simp -dsimp [aC]<;>exact rz
 by_cases c3:x.b<=t
 case pos=>
  have Ma:=v4 (by rw [v5];simp;omega);simp -dsimp [v0];repeat' first|omega|simp -dsimp [avb,v0,v3,hx,hx',Fc.row,c1,c2,c3,w0i]|apply aI|apply nI|intro
  refine⟨i+1,ag rfl ?_,?_,by omega,by omega⟩
  ·simp [aj,aT,hN,Ma]
  ·rw [hN,Ma];(try simp -dsimp only [hpx]);refine ai ?_;simp -dsimp [aC]<;>exact rz
 have P7:Am m p t i=true:=by rw [v5];simp;omega
 rw [if_pos P7]at hS;have h8:(K0.length+1) * 8<=140737488355328:=by omega
 have wl:IntKind.wrap .i64 (K0.length:Int)=(K0.length:Nat):=aK (by omega) (by omega);have z8:(K0++[i]).map nR=K0.map nR++[[.int .i64 i]]:=by rw [List.map_append];rfl
 simp -dsimp [v0];repeat' first|omega|simp -dsimp [avb,v0,v3,hx,hx',Fc.row,c1,c2,c3,dP,h8,wl]|apply aI|apply nI|intro
 refine ay [46,47,48,49,50,51,52,53,54,55,56,57,58,59,60,61,62,63,64,65,66,67,68,69,72,73,74,75,76,77,78,79,80,81,82,83,84,85,86,87,70,71,10] (fun q:InJ (lX.fc m) N (K0.length+1) K0.length=>[(10,(true,.int .i64 q.j))]) (fun q=>hps [(29142,{base:=0,ah:=[dP q.M]}),(29109,{base:=i+1,ah:=[]}),(29103,mS m)] cg) (fun q=>q.j) ⟨K0++[i],K0.length,hS.symm,by simp,Nat.le_refl _,fun z hz=>by
  rcases List.mem_append.1 hz with hz|hz
  ·exact Nat.lt_trans (vy z hz) v3
  ·rw [List.mem_singleton.1 hz];exact v3⟩ ?_ ?_ ?_
 ·simp [aj,aT]
 ·(try simp -dsimp only [hpx]);refine ai ?_;simp -dsimp [aC,dP,nR,mS]<;>exact rz
 rintro⟨M,j,ht,hl,hj,SS⟩;dsimp only;cases j with
 | zero=>
  have e:M=N:=ht;subst e;simp -dsimp [dP];repeat' first|omega|simp -dsimp [avb,w0i,dP]|apply aI|apply nI|intro
  refine⟨i+1,cq (aN rfl (br rfl (aN rfl bO))) ?_,?_,by omega,by omega⟩
  ·simp [aj,aT,hN,hl]
  ·rw [hN];(try simp -dsimp only [hpx]);refine ai ?_;simp -dsimp [aC,dP,mS]<;>exact rz
 | succ k=>
  have aH:k+1<M.length:=by omega
  have kW:k<M.length:=by omega
  have v1:((k:Int)+1)<(K0.length:Int)+1:=by omega
  have Fq:(k:Int)<(K0.length:Int)+1:=by omega
  obtain⟨u,hu⟩:∃x,M[k+1]?=some x:=⟨_,List.getElem?_eq_getElem aH⟩
  obtain⟨v,hv⟩:∃x,M[k]?=some x:=⟨_,List.getElem?_eq_getElem kW⟩
  have v6:M.getD (k+1) 0=u:=by simp [List.getD,hu]
  have v7:M.getD k 0=v:=by simp [List.getD,hv]
  have v8:u<m.fs.length:=v6 ▸ SS _ (iQ aH);have v9:v<m.fs.length:=v7 ▸ SS _ (iQ kW);have vb:(u:Int)<m.fs.length:=by omega
  have vd:(v:Int)<m.fs.length:=by omega
  obtain⟨fu,HV⟩:∃x,m.fs[u]?=some x:=⟨_,List.getElem?_eq_getElem v8⟩
  obtain⟨fv,O4⟩:∃x,m.fs[v]?=some x:=⟨_,List.getElem?_eq_getElem v9⟩
  have Vx:m.fs[u]=fu:=(List.getElem?_eq_some_iff.1 HV).2;have Vy:m.fs[v]=fv:=(List.getElem?_eq_some_iff.1 O4).2;have ku:(lX.fc m).key u=fu.aX:=by simp [lX.key,lD,List.getD,HV]
  have kv:(lX.fc m).key v=fv.aX:=by simp [lX.key,lD,List.getD,O4]
  have wk:IntKind.wrap .i64 (k:Int)=(k:Nat):=aK (by omega) (by omega);have hM':∀z∈(M.set (k+1) v).set k u,z<(lX.fc m).n:=fun z hz=>SS z (zf aH kW (by rw [v6,v7];exact hz));have vr:sink (lX.fc m).key M (k+1)=if fu.aX<fv.aX then sink (lX.fc m).key ((M.set (k+1) v).set k u) k else M:=by rw [sink,v6,v7,ku,kv]
  by_cases hc:fu.aX<fv.aX
  ·rw [vr,if_pos hc]at ht;simp -dsimp [dP];repeat' first|omega|simp -dsimp [avb,v1,Fq,aH,kW,hu,hv,vb,vd,v8,v9,HV,Vx,O4,Vy,Fc.row,hl,dP,nR,wk,hc]|apply aI|apply nI|intro
   refine⟨⟨(M.set (k+1) v).set k u,k,ht,by simp [hl],by omega,hM'⟩,ag rfl ?_,?_,by simp only;omega⟩
   ·simp [aj,aT]
   ·(try simp -dsimp only [hpx]);refine ai ?_;simp -dsimp [aC,dP,nR,mS]<;>exact rz
  ·rw [vr,if_neg hc]at ht;subst ht;simp -dsimp [dP];repeat' first|omega|simp -dsimp [avb,v1,Fq,aH,kW,hu,hv,vb,vd,v8,v9,HV,Vx,O4,Vy,Fc.row,hl,dP,nR,wk,w0i,hc]|apply aI|apply nI|intro
   refine⟨i+1,cq (aN rfl (br rfl (aN rfl bO))) ?_,?_,by omega,by omega⟩
   ·simp [aj,aT,hN,hl]
   ·rw [hN];(try simp -dsimp only [hpx]);refine ai ?_;simp -dsimp [aC,dP,nR,mS]<;>exact rz
theorem azr:FO 291 afx:=pf az8 .nil
noncomputable abbrev afy:aB:=bS Xn MlP fun d=>.sl 1 ((jf d.1 d.2.1 d.2.2 d.1.ss.length).map nR)
noncomputable abbrev avc:=EV [] [] 29300 85 [(1,[3,50003])]
theorem az9:af avc [] Tryz.f293 afy:=pb <| by
 rintro⟨m,p,t⟩ ⟨hf,hs⟩;simp only at hf hs;simp -dsimp [Tryz.f293,avc];repeat' first|omega|simp -dsimp [avc, *]|apply aI|apply nI|intro
 refine dA [(7,29338,1,3)] rfl (by simp) [10,11,12,13,14,17,18,19,20,21,22,23,24,25,26,27,28,29,30,31,32,33,34,35,36,37,38,7,39,40,41,9,42,43,44,45,46,47,48,49,50,51,52,53,54,55,56,57,58,59,60,61,62,63,64,65,68,69,70,71,72,73,74,75,76,77,78,79,80,81,82,83,66,67,15,16,8] (fun k:{k:Nat // k<=m.ss.length}=>[(8,(true,.int .i64 k.1)),(7,(true,.bw 29338 0 (jf m p t k.1).length))]) (fun k=>hps [(29338,{base:=0,ah:=[dP (jf m p t k.1)]}),(29303,mS m)] cg) (fun k=>m.ss.length - k.1) ⟨0,by omega⟩ ?_ ?_ ?_
 ·simp [aj,aT,jf,seen,fT]
 ·(try simp -dsimp only [hpx]);refine ai ?_;simp -dsimp [aC,dP,jf,seen,fT,mS]<;>exact rz
 rintro⟨i,hi⟩;dsimp only;have hS:=Oq m p t i;have hlen:=Vw m p t i;have vy:=fun x (hx:x∈jf m p t i)=>aas hx;generalize hN:jf m p t (i+1)=N at *;by_cases v3:i<m.ss.length
 case neg=>
  have va:¬ (i:Int)<m.ss.length:=by omega
  have vP:i=m.ss.length:=by omega
  subst vP;clear hS hN;simp -dsimp [va];repeat' first|omega|simp -dsimp [avc,va,dP]|apply aI|apply nI|intro
 generalize jf m p t i=K0 at *;have v0:(i:Int)<m.ss.length:=by omega
 have w0i:=wx i;obtain⟨x,hx,hx'⟩:=gx v3;have lC:lE m i=x:=by simp [lE,List.getD,hx]
 have v4:wL m p t i=false->N=K0:=fun h=>by rw [hS,h,if_neg (by simp)]
 have v5:wL m p t i=decide (x.pl=p/\x.at'<=t):=by rw [wL,lC]
 by_cases c1:x.pl=p
 case neg=>
  have Ma:=v4 (by rw [v5];simp [c1]);have Kv:(x.pl=p)=False:=eq_false c1;simp -dsimp [v0];repeat' first|omega|simp -dsimp [avc,v0,v3,hx,hx',Sg.row,Kv,w0i]|apply aI|apply nI|intro
  refine⟨i+1,ag rfl ?_,?_,by omega,by omega⟩
  ·simp [aj,aT,hN,Ma]
  ·rw [hN,Ma];(try simp -dsimp only [hpx]);refine ai ?_;simp -dsimp [aC]<;>exact rz
 by_cases c2:t<x.at'
 case pos=>
  have Ma:=v4 (by rw [v5];simp;omega);simp -dsimp [v0];repeat' first|omega|simp -dsimp [avc,v0,v3,hx,hx',Sg.row,c1,c2,w0i]|apply aI|apply nI|intro
  refine⟨i+1,ag rfl ?_,?_,by omega,by omega⟩
  ·simp [aj,aT,hN,Ma]
  ·rw [hN,Ma];(try simp -dsimp only [hpx]);refine ai ?_;simp -dsimp [aC]<;>exact rz
 have P7:wL m p t i=true:=by rw [v5];simp;omega
 rw [if_pos P7]at hS;have h8:(K0.length+1) * 8<=140737488355328:=by omega
 have wl:IntKind.wrap .i64 (K0.length:Int)=(K0.length:Nat):=aK (by omega) (by omega);have z8:(K0++[i]).map nR=K0.map nR++[[.int .i64 i]]:=by rw [List.map_append];rfl
 simp -dsimp [v0];repeat' first|omega|simp -dsimp [avc,v0,v3,hx,hx',Sg.row,c1,c2,dP,h8,wl]|apply aI|apply nI|intro
 refine ay [42,43,44,45,46,47,48,49,50,51,52,53,54,55,56,57,58,59,60,61,62,63,64,65,68,69,70,71,72,73,74,75,76,77,78,79,80,81,82,83,66,67,9] (fun q:InJ (lX.sg m) N (K0.length+1) K0.length=>[(9,(true,.int .i64 q.j))]) (fun q=>hps [(29338,{base:=0,ah:=[dP q.M]}),(29303,mS m)] cg) (fun q=>q.j) ⟨K0++[i],K0.length,hS.symm,by simp,Nat.le_refl _,fun z hz=>by
  rcases List.mem_append.1 hz with hz|hz
  ·exact Nat.lt_trans (vy z hz) v3
  ·rw [List.mem_singleton.1 hz];exact v3⟩ ?_ ?_ ?_
 ·simp [aj,aT]
 ·(try simp -dsimp only [hpx]);refine ai ?_;simp -dsimp [aC,dP,nR,mS]<;>exact rz
 rintro⟨M,j,ht,hl,hj,SS⟩;dsimp only;cases j with
 | zero=>
  have e:M=N:=ht;subst e;simp -dsimp [dP];repeat' first|omega|simp -dsimp [avc,w0i,dP]|apply aI|apply nI|intro
  refine⟨i+1,cq (aN rfl (br rfl (aN rfl bO))) ?_,?_,by omega,by omega⟩
  ·simp [aj,aT,hN,hl]
  ·rw [hN];(try simp -dsimp only [hpx]);refine ai ?_;simp -dsimp [aC,dP,mS]<;>exact rz
 | succ k=>
  have aH:k+1<M.length:=by omega
  have kW:k<M.length:=by omega
  have v1:((k:Int)+1)<(K0.length:Int)+1:=by omega
  have Fq:(k:Int)<(K0.length:Int)+1:=by omega
  obtain⟨u,hu⟩:∃x,M[k+1]?=some x:=⟨_,List.getElem?_eq_getElem aH⟩
  obtain⟨v,hv⟩:∃x,M[k]?=some x:=⟨_,List.getElem?_eq_getElem kW⟩
  have v6:M.getD (k+1) 0=u:=by simp [List.getD,hu]
  have v7:M.getD k 0=v:=by simp [List.getD,hv]
  have v8:u<m.ss.length:=v6 ▸ SS _ (iQ aH);have v9:v<m.ss.length:=v7 ▸ SS _ (iQ kW);have vb:(u:Int)<m.ss.length:=by omega
  have vd:(v:Int)<m.ss.length:=by omega
  obtain⟨fu,HV⟩:∃x,m.ss[u]?=some x:=⟨_,List.getElem?_eq_getElem v8⟩
  obtain⟨fv,O4⟩:∃x,m.ss[v]?=some x:=⟨_,List.getElem?_eq_getElem v9⟩
  have Vx:m.ss[u]=fu:=(List.getElem?_eq_some_iff.1 HV).2;have Vy:m.ss[v]=fv:=(List.getElem?_eq_some_iff.1 O4).2;have ku:(lX.sg m).key u=fu.at':=by simp [lX.key,lE,List.getD,HV]
  have kv:(lX.sg m).key v=fv.at':=by simp [lX.key,lE,List.getD,O4]
  have wk:IntKind.wrap .i64 (k:Int)=(k:Nat):=aK (by omega) (by omega);have hM':∀z∈(M.set (k+1) v).set k u,z<(lX.sg m).n:=fun z hz=>SS z (zf aH kW (by rw [v6,v7];exact hz));have vr:sink (lX.sg m).key M (k+1)=if fu.at'<fv.at' then sink (lX.sg m).key ((M.set (k+1) v).set k u) k else M:=by rw [sink,v6,v7,ku,kv]
  by_cases hc:fu.at'<fv.at'
  ·rw [vr,if_pos hc]at ht;simp -dsimp [dP];repeat' first|omega|simp -dsimp [avc,v1,Fq,aH,kW,hu,hv,vb,vd,v8,v9,HV,Vx,O4,Vy,Sg.row,hl,dP,nR,wk,hc]|apply aI|apply nI|intro
   refine⟨⟨(M.set (k+1) v).set k u,k,ht,by simp [hl],by omega,hM'⟩,ag rfl ?_,?_,by simp only;omega⟩
   ·simp [aj,aT]
   ·(try simp -dsimp only [hpx]);refine ai ?_;simp -dsimp [aC,dP,nR,mS]<;>exact rz
  ·rw [vr,if_neg hc]at ht;subst ht;simp -dsimp [dP];repeat' first|omega|simp -dsimp [avc,v1,Fq,aH,kW,hu,hv,vb,vd,v8,v9,HV,Vx,O4,Vy,Sg.row,hl,dP,nR,wk,w0i,hc]|apply aI|apply nI|intro
   refine⟨i+1,cq (aN rfl (br rfl (aN rfl bO))) ?_,?_,by omega,by omega⟩
   ·simp [aj,aT,hN,hl]
   ·rw [hN];(try simp -dsimp only [hpx]);refine ai ?_;simp -dsimp [aC,dP,nR,mS]<;>exact rz
theorem azs:FO 293 afy:=pf az9 .nil
def DJ(k:cR):Site:={base:=0,ah:=[{z:=8,els:=[k.row],ty:=25}]}
theorem Mb(a1 a2 a3 a4 a5 a6 b1 b2 b3 b4 b5 b6:Int)(a7 a8 b7 b8:Bool):aY Vs [.agg [.int .i64 a1,.int .i64 a2,.int .i64 a3,.int .i64 a4,.int .i64 a5,.int .i64 a6,.bool a7,.bool a8],.agg [.int .i64 b1,.int .i64 b2,.int .i64 b3,.int .i64 b4,.int .i64 b5,.int .i64 b6,.bool b7,.bool b8]]=(⟨⟨a1,a2⟩,⟨a3,a4⟩,⟨a5,a6⟩,a7,a8⟩,⟨⟨b1,b2⟩,⟨b3,b4⟩,⟨b5,b6⟩,b7,b8⟩):=aA Vt (⟨⟨a1,a2⟩,⟨a3,a4⟩,⟨a5,a6⟩,a7,a8⟩,⟨⟨b1,b2⟩,⟨b3,b4⟩,⟨b5,b6⟩,b7,b8⟩)
noncomputable abbrev afz:aB:=bS Xn EC fun d=>.dB [.agg (ED d.1 d.2.1 d.2.2).row,.sl 1 ((Al d.1 d.2.1 d.2.2).2.map nR)]
noncomputable abbrev avi:=EV [(291,.pure afx),(292,.pure Vu),(293,.pure afy),(294,.pure ctW),(295,.pure MT)] [] 27500 132 [(1,[3,50003])]
theorem aAa:af avi [(7,([2000,2,5,6,7,9,10],[[0,1,2,3,4,5,6,7,8,9,10,11,12,13,14,15,16]])),(15,([1,4,5,6,7],[[0,1,2,3,4,5,6,7,8,9]]))] Tryz.f275 afz:=pb <| by
 rintro⟨m,p,t⟩ ⟨hok,hf,hs,ht⟩;simp only at hok hf hs ht;have hF:=Be hok;have z2:MlP (m,p,t):=⟨by simp only;omega,by simp only;omega⟩
 have z9:∀x∈lW m p t m.fs.length,x<m.fs.length:=fun x hx=>(CJ hx).1;have zv:=tn m p t m.fs.length;have zE:(je m p t m.fs.length).length=(lW m p t m.fs.length).length:=jV _ _;have za:∀x∈je m p t m.fs.length,x<m.fs.length:=Ko z9;have z3:Al m p t=fq m (je m p t m.fs.length) (je m p t m.fs.length).length:=rfl;have zd:∀x∈jf m p t m.ss.length,x<m.ss.length/\(lE m x).at'<=t:=fun x hx=>by have:=xo (mQ.1 hx);simp only [wL,decide_eq_true_eq]at this;exact⟨this.1,this.2.2⟩
 have zK:(jf m p t m.ss.length).length=(seen m p t m.ss.length).length:=jV _ _;have amC:=tr m p t m.ss.length;simp -dsimp [Tryz.f275,avi];repeat' first|omega|simp -dsimp [avi,tj,z2,cR.row]|apply aI|apply nI|intro
 generalize je m p t m.fs.length=K at *;generalize lW m p t m.fs.length=L at *;refine dA [(9,27552,1,3)] rfl (by simp) [24,25,26,27,31,32,33,34,35,36,37,38,39,40,41,30,42,43,12,13,44,45,46,47,48,49,50,51,52,9,28,29,11] (fun k:{k:Nat // k<=K.length}=>[(11,(true,.int .i64 k.1)),(9,(true,.bw 27552 0 (fq m K k.1).2.length))]) (fun k=>hps [(27512,{base:=k.1,ah:=[]}),(27552,{base:=0,ah:=[dP (fq m K k.1).2]}),(27508,DJ (fq m K k.1).1),(27506,DJ ⟨⟨0,0⟩,⟨0,0⟩,⟨0,0⟩,false,false⟩),(27503,mS m)] cg) (fun k=>K.length - k.1) ⟨0,by omega⟩ ?_ ?_ ?_
 ·simp [aj,aT,fq]
 ·(try simp -dsimp only [hpx]);refine ai ?_;simp -dsimp [aC,dP,fq,DJ,mS,cR.row]<;>exact rz
 rintro⟨k,hk⟩;dsimp only;by_cases aH:k<K.length
 ·have v1:(k:Int)<K.length:=by omega
  have wk:=wx k;obtain⟨q,hq,EE⟩:=gx aH;have EF:q<m.fs.length:=za q (EE ▸ List.getElem_mem aH);have vs:(q:Int)<m.fs.length:=by omega
  obtain⟨x,hx,hx'⟩:=gx EF;have lC:lD m q=x:=by simp [lD,List.getD,hx]
  have v2:(fq m K (k+1)).1=(pz (fq m K k).1 x.k).1:=by simp [fq,List.getD,hq,lC]
  have HB:(fq m K (k+1)).2=(fq m K k).2++if (pz (fq m K k).1 x.k).2=true then [q]else []:=by simp [fq,List.getD,hq,lC]
  have zY:=pG m K k;have h8:((fq m K k).2.length+1) * 8<=140737488355328:=by omega
  generalize (fq m K k).1=Kp at *;generalize (fq m K k).2=Sp0 at *;obtain⟨⟨w1,w2⟩,⟨s1,s2⟩,⟨c1,c2⟩,ic,st⟩:=Kp;obtain⟨x1,x2,x3,x4,⟨⟨y1,y2⟩,⟨y3,y4⟩,⟨y5,y6⟩,yi,ys⟩⟩:=x;simp only at v2 HB;rw [mh]at v2;cases hc:(pz ⟨⟨w1,w2⟩,⟨s1,s2⟩,⟨c1,c2⟩,ic,st⟩ ⟨⟨y1,y2⟩,⟨y3,y4⟩,⟨y5,y6⟩,yi,ys⟩).2
  ·rw [hc,if_neg (by simp),List.append_nil]at HB;simp -dsimp [aS,cQ,v1,DJ,cR.row];repeat' first|omega|simp -dsimp [avi,aS,cQ,v1,aH,hq,EE,EF,vs,hx,hx',Fc.row,dP,nR,DJ,cR.row,Mb,hc,mh,wk]|apply aI|apply nI|intro
   all_goals
    refine⟨k+1,ag rfl ?_,?_,by omega,by omega⟩
    ·simp [aj,aT,HB]
    ·rw [v2,HB];exact(by(try simp -dsimp only [hpx]);refine ai ?_;simp -dsimp [aC,dP,nR,DJ,cR.row]<;>exact rz)
  ·rw [hc,if_pos rfl]at HB;simp -dsimp [aS,cQ,v1,DJ,cR.row];repeat' first|omega|simp -dsimp [avi,aS,cQ,v1,aH,hq,EE,EF,vs,hx,hx',Fc.row,dP,nR,DJ,cR.row,Mb,hc,mh,wk,h8]|apply aI|apply nI|intro
   all_goals
    refine⟨k+1,ag rfl ?_,?_,by omega,by omega⟩
    ·simp [aj,aT,HB]
    ·rw [v2,HB];exact(by(try simp -dsimp only [hpx]);refine ai ?_;simp -dsimp [aC,dP,nR,DJ,cR.row]<;>exact rz)
 have vx:¬ (k:Int)<K.length:=by omega
 have vV:k=K.length:=by omega
 subst vV;rw [<-z3];clear hk aH;have aqa:(Al m p t).2.length<=K.length:=by rw [z3];exact pG m K _
 have zo:ED m p t=qR m t (jf m p t m.ss.length) (Al m p t).1 (jf m p t m.ss.length).length:=rfl;generalize zp:Al m p t=MF at *;obtain⟨k0,Ss⟩:=MF;simp only at aqa;simp -dsimp [vx];repeat' first|omega|simp -dsimp [avi,vx,tj,z2,dP]|apply aI|apply nI|intro
 generalize jf m p t m.ss.length=G at *;generalize seen m p t m.ss.length=L2 at *;refine ay [57,58,59,60,63,64,65,66,67,68,69,70,16,71,72,73,74,17,76,77,78,79,80,81,82,83,84,85,86,75,87,88,89,91,92,93,94,95,96,97,98,99,100,101,90,102,103,104,106,107,108,109,110,111,112,113,114,115,116,105,117,118,119,120,121,122,123,124,125,126,127,128,129,61,62,15] (fun k:{k:Nat // k<=G.length}=>[(15,(true,.int .i64 k.1))]) (fun k=>hps [(27516,{base:=k.1,ah:=[]}),(27508,DJ (qR m t G k0 k.1)),(27512,{base:=K.length,ah:=[]}),(27552,{base:=0,ah:=[dP Ss]}),(27506,DJ ⟨⟨0,0⟩,⟨0,0⟩,⟨0,0⟩,false,false⟩),(27503,mS m)] cg) (fun k=>G.length - k.1) ⟨0,by omega⟩ ?_ ?_ ?_
 ·simp [aj,aT]
 ·(try simp -dsimp only [hpx]);refine ai ?_;simp -dsimp [aC,dP,qR]<;>exact rz
 rintro⟨k,hk⟩;dsimp only;by_cases aH:k<G.length
 ·have v1:(k:Int)<G.length:=by omega
  have wk:=wx k;obtain⟨q,hq,EE⟩:=gx aH;obtain⟨EF,zr⟩:=zd q (EE ▸ List.getElem_mem aH);have vs:(q:Int)<m.ss.length:=by omega
  obtain⟨x,hx,hx'⟩:=gx EF;have lC:lE m q=x:=by simp [lE,List.getD,hx]
  rw [lC]at zr;have v2:qR m t G k0 (k+1)=EG m t (qR m t G k0 k) x:=by simp [qR,List.getD,hq,lC]
  obtain⟨Rl,z4,z5,z6⟩:=hF.g x (hx' ▸ List.getElem_mem EF);obtain⟨OY,zs,zt⟩:=And.intro hF.w (And.intro hF.s hF.c);have vW:0<=t - x.at'/\t - x.at'<=2000:=by omega
  unfold EG at v2;obtain⟨n,vX⟩:∃n,t - x.at'=n:=⟨_,rfl⟩
  rw [vX]at v2 vW;have w0:IntKind.wrap .i64 (t - x.at')=n:=by rw [aK (by omega) (by omega),vX]
  have Xq:∀c:Int,0<=c/\c<=20000->0<=n * c/\n * c<=40000000:=fun c hc=>⟨Int.mul_nonneg vW.1 hc.1,by have:=Int.mul_le_mul vW.2 hc.2 hc.1 (by omega:(0:Int)<=2000);omega⟩
  have p1:=Xq _ OY;have p2:=Xq _ zs;have p3:=Xq _ zt;clear Xq;obtain⟨n1,MR⟩:∃n1,n * m.w=n1:=⟨_,rfl⟩
  obtain⟨n2,z0⟩:∃n2,n * m.s=n2:=⟨_,rfl⟩
  obtain⟨n3,z1⟩:∃n3,n * m.c=n3:=⟨_,rfl⟩
  rw [MR]at v2 p1;rw [z0]at v2 p2;rw [z1]at v2 p3;have w1:IntKind.wrap .i64 (n * m.w)=n1:=by rw [MR];exact aK (by omega) (by omega)
  have w2:IntKind.wrap .i64 (n * m.s)=n2:=by rw [z0];exact aK (by omega) (by omega)
  have w3:IntKind.wrap .i64 (n * m.c)=n3:=by rw [z1];exact aK (by omega) (by omega)
  clear MR z0 z1 vX;generalize yB:Kq x.k.w n1 300=A1 at *;generalize Wm:Kq x.k.s n2 20000=A2 at *;generalize z7:Kq x.k.c n3 20000=A3 at *;obtain⟨a1,b1⟩:=A1;obtain⟨a2,b2⟩:=A2;obtain⟨a3,b3⟩:=A3;generalize y0:qR m t G k0 k=Kp at *;obtain⟨⟨w1',w2'⟩,⟨s1,s2⟩,⟨c1,c2⟩,ic,st⟩:=Kp;simp only at v2;by_cases hn:n=0
  ·rw [if_pos hn,if_pos hn]at v2;have hn':(n=0)=True:=eq_true hn;simp -dsimp [aS,cQ,v1,DJ,cR.row];repeat' first|omega|simp -dsimp [avi,aS,cQ,v1,aH,hq,EE,EF,vs,hx,hx',Sg.row,Sp.row,Gp,dP,nR,DJ,cR.row,wk,w0,w1,w2,w3,yB,Wm,z7,hn',z4,z5,z6,p1,p2,p3]|apply aI|apply nI|intro
   all_goals
    refine⟨k+1,ag rfl ?_,?_,by omega,by omega⟩
    ·simp [aj,aT]
    ·rw [v2];exact(by(try simp -dsimp only [hpx]);refine ai ?_;simp -dsimp [aC,dP,nR,DJ,cR.row]<;>exact rz)
  ·rw [if_neg hn,if_neg hn]at v2;have hn':(n=0)=False:=eq_false hn;simp -dsimp [aS,cQ,v1,DJ,cR.row];repeat' first|omega|simp -dsimp [avi,aS,cQ,v1,aH,hq,EE,EF,vs,hx,hx',Sg.row,Sp.row,Gp,dP,nR,DJ,cR.row,wk,w0,w1,w2,w3,yB,Wm,z7,hn',z4,z5,z6,p1,p2,p3]|apply aI|apply nI|intro
   all_goals
    refine⟨k+1,ag rfl ?_,?_,by omega,by omega⟩
    ·simp [aj,aT]
    ·rw [v2];exact(by(try simp -dsimp only [hpx]);refine ai ?_;simp -dsimp [aC,dP,nR,DJ,cR.row]<;>exact rz)
 have vx:¬ (k:Int)<G.length:=by omega
 have vV:k=G.length:=by omega
 subst vV;rw [<-zo];simp -dsimp [vx,DJ,cR.row];repeat' first|omega|simp -dsimp [avi,vx,DJ,cR.row,dP,zp]|apply aI|apply nI|intro
theorem azd:FO 275 afz:=pf aAa (.cons azr (.cons azp (.cons azs (.cons ayd (.cons azq .nil)))))
noncomputable abbrev GC:=EV [(275,.pure afz),(277,.pure wsS),(276,.pure MW)] [] 23100 22
theorem aqF:af GC [(2,([],[[0,1,2,3,4],[2,0,1,3,4]]))] Tryz.f231 MV:=pb <| by rintro⟨m,l,p,t⟩ hP;have hP:EC (m,p,t):=hP;have e:MU (EH (ED m p t)) l=EI m l p t:=Kr _ _;simp -dsimp [Tryz.f231,GC,Wt.row];repeat' first|omega|simp -dsimp [GC,Wt.row,cR.row,tj,hP,dH,EJ,e]|apply aI|apply nI|intro
theorem ahY:FO 231 MV:=pf aqF (.cons azd (.cons aze (.cons azf .nil)))
noncomputable abbrev afW:aB:=bS Xn (fun d=>qQ d.1) fun d=>.int .i64 (pT d.1 d.2.1 d.2.2)
noncomputable abbrev Is:=EV [(104,.pure PR),(105,.pure rgS)] [] 27400 24
theorem anN:af Is [] Tryz.f274 afW:=pb <| by
 rintro⟨m,p,t⟩ hP;have hP:qQ m:=hP;rcases lN m with⟨h0,h1⟩|⟨h0,h1⟩
 ·have hn:=okN h0;have wn:=wi (m.n - 1);have hE:pT m p t=if atB m p t=true then 0 else 1:=by simp [pT,h0]
  rw [atB]at hE;cases g1:bQ p 0 (m.n - 1)
  ·rw [g1]at hE;have hE:pT m p t=1:=hE;simp -dsimp [Tryz.f274,Is];repeat' first|omega|simp -dsimp [Is,E4,hP,h1,wn,g1,hE]|apply aI|apply nI|intro
  cases g2:bQ t 0 2000
  ·rw [g1,g2]at hE;have hE:pT m p t=1:=hE;simp -dsimp [Tryz.f274,Is];repeat' first|omega|simp -dsimp [Is,E4,hP,h1,wn,g1,g2,hE]|apply aI|apply nI|intro
  rw [g1,g2]at hE;have hE:pT m p t=0:=hE;simp -dsimp [Tryz.f274,Is];repeat' first|omega|simp -dsimp [Is,E4,hP,h1,wn,g1,g2,hE]|apply aI|apply nI|intro
 ·have hE:pT m p t=40:=by simp [pT,h0]
  simp -dsimp [Tryz.f274,Is];repeat' first|omega|simp -dsimp [Is,E4,hP,h1,hE]|apply aI|apply nI|intro
theorem ai7:FO 274 afW:=pf anN (.cons VO (.cons L8 .nil))
noncomputable abbrev GA:=EV [(46,.pure mmS),(274,.pure afW)] [] 23000 20
theorem aqE:af GA [] Tryz.f230 coS:=pb <| by
 rintro⟨m,l,p,t⟩ hP;have hP:qQ m:=hP;rcases Bv m l with⟨h0,h1⟩|h1
 ·have hE:pT m p t=uS m l p t:=by simp [pT,h0,uS,h1]
  simp -dsimp [Tryz.f230,GA,Wt.row];repeat' first|omega|simp -dsimp [GA,Wt.row,xE,tj,hP,h1,hE]|apply aI|apply nI|intro
 ·have hE:uS m l p t=uz m l:=by simp [uS,h1]
  simp -dsimp [Tryz.f230,GA,Wt.row];repeat' first|omega|simp -dsimp [GA,Wt.row,xE,hP,h1,hE]|apply aI|apply nI|intro
theorem ahX:FO 230 coS:=pf aqE (.cons apg (.cons ai7 .nil))
noncomputable abbrev afD:=EV [(230,.pure coS),(231,.pure MV)] [] 17500 24
theorem aqb:af afD [] Tryz.f175 OpS:=pb <| by
 rintro⟨m,l,p,t⟩ ⟨h1,h2,h3⟩;simp only at h1 h2 h3;have hM:=h1.met;simp only at hM;have hE:uS m l p t=0:=by
  have pI:m.ok=true:=h1.ok;have:uz m l=0:=by simp [uz,pI,h2]
  simp [uS,this,h3]
 simp -dsimp [Tryz.f175,afD,Wt.row];repeat' first|omega|simp -dsimp [afD,Wt.row,Ks,hM,hE,h1]|apply aI|apply nI|intro
theorem KO:FO 175 OpS:=pf aqb (.cons ahX (.cons ahY .nil))
end Go.Sx
end
end
