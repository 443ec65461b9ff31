/- A part of a proof; no conditions. -/
import Derived.Test.YtegiclpanpmkdaaGreatDoorP22
set_option linter.all false
set_option maxRecDepth 100000
set_option maxHeartbeats 8000000
noncomputable section
section
namespace Go.Sx
open Go.Proofs
attribute [local simp] ri aa ints
attribute [local irreducible] bA
noncomputable abbrev ayE:=EV [] [] 29000 15
theorem az0:af ayE [] Tryz.f290 Pq:=pb <| by rintro⟨n,lo,hi⟩ _;simp -dsimp [Tryz.f290,ayE,bQ];repeat' (first|omega|simp -dsimp [ayE,bQ]|apply aI|apply nI|intro)
theorem azm:FO 290 Pq:=pf az0 .nil
noncomputable abbrev afn:=EV [] [] 10500 15
theorem apT:af afn [] Tryz.f105 Pq:=pb <| by rintro⟨n,lo,hi⟩ _;simp -dsimp [Tryz.f105,afn,bQ];repeat' (first|omega|simp -dsimp [afn,bQ]|apply aI|apply nI|intro)
theorem L8:FO 105 Pq:=pf apT .nil
theorem aaq (a b:Int):(!jE ⟨a,b⟩)=(bQ a (-1000000) 1000000 && bQ b a 1000000):=by unfold jE bQ;rw [Bool.not_not,Bool.eq_iff_iff]; simp; omega
noncomputable abbrev vaS:aB:=bS spE (fun _=>True) fun d=>.bool (!jE d)
theorem zJ (a b:Int):aY spE [.agg [.int .i64 a,.int .i64 b]]=⟨a,b⟩:=aA L9 ⟨a,b⟩
noncomputable abbrev Ny:=EV [(290,.pure Pq)] [] 27200 13
theorem anK:af Ny [] Tryz.f272 vaS:=pb <| by rintro⟨a,b⟩ _;have e:=aaq a b;simp -dsimp [Tryz.f272,Ny,Sp.row];repeat' (first|omega|simp -dsimp [Ny,Sp.row,e]|apply aI|apply nI|intro)
theorem ai4:FO 272 vaS:=pf anK (.cons azm .nil)
noncomputable abbrev twS:aB:=bS Ir (fun _=>True) fun d=>.int .i64 (if (jE d.1 || jE d.2)=true then 10 else 0)
noncomputable abbrev ayF:=EV [(272,.pure vaS)] [] 31000 13
theorem az1:af ayF [] Tryz.f310 twS:=pb <| by
 rintro⟨⟨a,b⟩,⟨c,d⟩⟩ _;generalize h1:jE ⟨a,b⟩=p;generalize h2:jE ⟨c,d⟩=q;cases p<;>cases q
 all_goals
  simp -dsimp [Tryz.f310,ayF,Sp.row];repeat' (first|omega|simp -dsimp [ayF,Sp.row,zJ,h1,h2]|apply aI|apply nI|intro)
theorem azn:FO 310 twS:=pf az1 (.cons ai4 .nil)
noncomputable abbrev avA:=EV [(310,.pure twS)] [] 30000 33
theorem az2:af avA [] Tryz.f300 NA:=pb <| by
 rintro⟨⟨a,b⟩,⟨c,d⟩⟩ _;have hE:zg ⟨a,b⟩ ⟨c,d⟩=if (jE ⟨a,b⟩ || jE ⟨c,d⟩)=true then (⟨0,0⟩,10)else if min b d<max a c then (⟨0,0⟩,3)else (⟨max a c,min b d⟩,0):=rfl;generalize hM:max a c=x at *;generalize hN:min b d=y at *;have g1:=K8 a c;have g2:=K9 b d;rw [hM]at g1;rw [hN]at g2;by_cases hpq:jE ⟨a,b⟩=true\/jE ⟨c,d⟩=true
 ·rw [if_pos (by simpa using hpq)]at hE;have adz:(jE ⟨a,b⟩=true\/jE ⟨c,d⟩=true)=True:=eq_true hpq;simp -dsimp [Tryz.f300,avA,Sp.row];repeat' (first|omega|simp -dsimp [avA,Sp.row,eE,adz,hE]|apply aI|apply nI|intro)
 ·rw [if_neg (by simpa using hpq)]at hE;have hp1:jE ⟨a,b⟩=false:=by simpa using fun h=>hpq (.inl h)
  have hp2:jE ⟨c,d⟩=false:=by simpa using fun h=>hpq (.inr h)
  by_cases hxy:y<x
  ·rw [if_pos hxy]at hE;simp -dsimp [Tryz.f300,avA,Sp.row];repeat' (first|omega|simp -dsimp [avA,Sp.row,eE,hp1,hp2,g1,g2,hxy,hE]|apply aI|apply nI|intro)
  ·rw [if_neg hxy]at hE;simp -dsimp [Tryz.f300,avA,Sp.row];repeat' (first|omega|simp -dsimp [avA,Sp.row,eE,hp1,hp2,g1,g2,hxy,hE]|apply aI|apply nI|intro)
theorem azo:FO 300 NA:=pf az2 (.cons azn .nil)
noncomputable abbrev asw:=EV [(272,.pure vaS)] [] 22500 18
theorem auC:af asw [] Tryz.f225 inS:=pb <| by
 rintro⟨⟨a,b⟩,n⟩ _;have e:sA ⟨a,b⟩ n=(!jE ⟨a,b⟩ && decide (0<=a) && decide (b<=n)):=by unfold sA bQ;rw [SX,Bool.eq_iff_iff];simp [jE]; omega
 generalize h1:jE ⟨a,b⟩=p at e;cases p
 ·simp -dsimp [Tryz.f225,asw,Sp.row];repeat' (first|omega|simp -dsimp [asw,Sp.row,zJ,h1,e]|apply aI|apply nI|intro)
 ·simp -dsimp [Tryz.f225,asw,Sp.row];repeat' (first|omega|simp -dsimp [asw,Sp.row,zJ,h1,e]|apply aI|apply nI|intro)
theorem aug:FO 225 inS:=pf auC (.cons ai4 .nil)
noncomputable abbrev afE:=EV [(225,.pure inS)] [] 16200 16
theorem aqc:af afE [] Tryz.f162 skS:=pb <| by rintro⟨⟨a,b⟩,⟨c,d⟩,⟨x,y⟩,u,v⟩ _;have e:=Ul ⟨⟨a,b⟩,⟨c,d⟩,⟨x,y⟩,u,v⟩;simp only at e;generalize h1:sA ⟨a,b⟩ 300=p1 at e;generalize h2:sA ⟨c,d⟩ 20000=p2 at e;generalize h3:sA ⟨x,y⟩ 20000=p3 at e;simp -dsimp [Tryz.f162,afE,cR.row];repeat' (first|omega|simp -dsimp [afE,cR.row,Sp.row,asP,h1,h2,h3,e]|apply aI|apply nI|intro)
theorem LB:FO 162 skS:=pf aqc (.cons aug .nil)
noncomputable abbrev vwS:aB:=bS wtE (fun _=>True) fun d=>.bool d.ok
noncomputable abbrev Ud:=EV [(105,.pure Pq)] [] 16300 16
theorem aoE:af Ud [] Tryz.f163 vwS:=pb <| by rintro⟨a,b,c,x,y⟩ _;have e:Wt.ok ⟨a,b,c,x,y⟩=(bQ a 0 300 && bQ b 0 20000 && bQ c 0 20000):=rfl;simp -dsimp [Tryz.f163,Ud,Wt.row];repeat' (first|omega|simp -dsimp [Ud,Wt.row,e]|apply aI|apply nI|intro)
theorem aby:FO 163 vwS:=pf aoE (.cons L8 .nil)
noncomputable abbrev ctW:aB:=bS Ir (fun _=>True) fun d=>.dB [.agg (eM d.1 d.2).1.row,.bool (eM d.1 d.2).2]
noncomputable abbrev awR:=EV [(300,.pure NA)] [] 29400 18
theorem az3:af awR [] Tryz.f294 ctW:=pb <| by
 rintro⟨⟨a,b⟩,⟨c,d⟩⟩ _;have e:=tI ⟨a,b⟩ ⟨c,d⟩;by_cases he:(zg ⟨a,b⟩ ⟨c,d⟩).2=0
 ·rw [if_pos he]at e;simp -dsimp [Tryz.f294,awR,Sp.row];repeat' (first|omega|simp -dsimp [awR,Sp.row,eE,he,e]|apply aI|apply nI|intro)
 ·rw [if_neg he]at e;simp -dsimp [Tryz.f294,awR,Sp.row];repeat' (first|omega|simp -dsimp [awR,Sp.row,eE,he,e]|apply aI|apply nI|intro)
theorem ayd:FO 294 ctW:=pf az3 (.cons azo .nil)
@[simp] def Vs (d:cR × cR):List V:=[.agg d.1.row,.agg d.2.row]
theorem Vt (a b:cR × cR) (h:Vs a=Vs b):a=b:=by obtain⟨a1,a2⟩:=a; obtain⟨b1,b2⟩:=b;simp only [Vs,List.cons.injEq,V.agg.injEq,and_true]at h;rw [cR.aq _ _ h.1,cR.aq _ _ h.2]
noncomputable abbrev Vu:aB:=bS Vs (fun _=>True) fun d=>.dB [.agg (pz d.1 d.2).1.row,.bool (pz d.1 d.2).2]
noncomputable abbrev ayG:=EV [(294,.pure ctW)] [] 29200 59
theorem az4:af ayG [] Tryz.f292 Vu:=pb <| by
 rintro⟨⟨⟨a,b⟩,⟨c,d⟩,⟨x,y⟩,u,v⟩,⟨⟨a',b'⟩,⟨c',d'⟩,⟨x',y'⟩,u',v'⟩⟩ _;have e1:(pz ⟨⟨a,b⟩,⟨c,d⟩,⟨x,y⟩,u,v⟩ ⟨⟨a',b'⟩,⟨c',d'⟩,⟨x',y'⟩,u',v'⟩)=(⟨(eM ⟨a,b⟩ ⟨a',b'⟩).1,(eM ⟨c,d⟩ ⟨c',d'⟩).1,(eM ⟨x,y⟩ ⟨x',y'⟩).1,u && u',v && v'⟩,(eM ⟨a,b⟩ ⟨a',b'⟩).2 || (eM ⟨c,d⟩ ⟨c',d'⟩).2 || (eM ⟨x,y⟩ ⟨x',y'⟩).2):=rfl;generalize hA:eM ⟨a,b⟩ ⟨a',b'⟩=A at e1;generalize hB:eM ⟨c,d⟩ ⟨c',d'⟩=B at e1;generalize hC:eM ⟨x,y⟩ ⟨x',y'⟩=C at e1;obtain⟨⟨A1,A2⟩,A3⟩:=A;obtain⟨⟨B1,B2⟩,B3⟩:=B;obtain⟨⟨C1,C2⟩,C3⟩:=C;cases u<;>cases v<;>cases A3<;>cases B3
 all_goals
  simp -dsimp [Tryz.f292,ayG,cR.row];repeat' (first|omega|simp -dsimp [ayG,cR.row,Sp.row,eE,hA,hB,hC,e1]|apply aI|apply nI|intro)
theorem azp:FO 292 Vu:=pf az4 (.cons ayd .nil)
noncomputable abbrev ayH:=EV [] [] 29500 17
theorem az5:af ayH [] Tryz.f295 MT:=pb <| by
 rintro⟨n,b,m⟩ ⟨h1,h2,h3⟩;simp only at h1 h2 h3;have w1:=wi (n - b);have w2:=wi (n+b);simp -dsimp [Tryz.f295,ayH,Kq,Sp.row];repeat' (first|omega|simp -dsimp [ayH,w1,w2,Kq,Sp.row]|apply aI|apply nI|intro)
 all_goals (repeat' split)<;>omega
theorem azq:FO 295 MT:=pf az5 .nil
noncomputable abbrev ayI:=EV [] [] 27700 17
theorem az6:af ayI [] Tryz.f277 wsS:=pb <| by rintro⟨⟨a,b⟩,⟨c,d⟩,⟨e,f⟩,x,y⟩ _;simp -dsimp [Tryz.f277,ayI,cR.row,EH,Wt.row];repeat' (first|omega|simp -dsimp [ayI,cR.row,EH,Wt.row]|apply aI|apply nI|intro)
theorem aze:FO 277 wsS:=pf az6 .nil
noncomputable abbrev ayJ:=EV [] [] 27600 42
theorem az7:af ayJ [] Tryz.f276 MW:=pb <| by
 rintro⟨⟨a,b,c,x,y⟩,⟨d,e,f,u,v⟩⟩ _;have e1:MU ⟨a,b,c,x,y⟩ ⟨d,e,f,u,v⟩=(decide (a<=d) && decide (e<=b) && decide (f<=c) && (!x || u) && (!y || v)):=rfl;by_cases h1:a<=d<;>by_cases h2:e<=b<;>by_cases h3:f<=c<;>cases x<;>cases u
 all_goals
  simp -dsimp only [h1,h2,h3,decide_true,decide_false,Bool.true_and,Bool.false_and,Bool.not_true,Bool.not_false,Bool.true_or,Bool.false_or,Bool.and_true,Bool.and_false]at e1;simp -dsimp [Tryz.f276,ayJ,Wt.row];repeat' (first|omega|simp -dsimp [ayJ,Wt.row,h1,h2,h3,e1]|apply aI|apply nI|intro)
theorem azf:FO 276 MW:=pf az7 .nil
end Go.Sx
end
section
namespace Go.Sx
open Go.Proofs
attribute [local simp] ri aa ints
attribute [local irreducible] bA
theorem Oo (m:Met) (p t:Int) (n:Nat):je m p t (n+1)=if Am m p t n=true then sink (lX.fc m).key (je m p t n++[n]) (je m p t n).length else je m p t n:=by
 unfold je;rw [Bg];split
 ·rw [vA]; rfl
 ·rw [List.append_nil]
theorem Oq (m:Met) (p t:Int) (n:Nat):jf m p t (n+1)=if wL m p t n=true then sink (lX.sg m).key (jf m p t n++[n]) (jf m p t n).length else jf m p t n:=by
 unfold jf;rw [Bh];split
 ·rw [vA]; rfl
 ·rw [List.append_nil]
theorem aar {m:Met} {p t:Int} {n x:Nat} (h:x∈je m p t n):x<n:=(CJ (mQ.1 h)).1
theorem aas {m:Met} {p t:Int} {n x:Nat} (h:x∈jf m p t n):x<n:=(xo (mQ.1 h)).1
theorem Vv (m:Met) (p t:Int) (n:Nat):(je m p t n).length<=n:=by rw [je,jV]; exact tn m p t n
theorem Vw (m:Met) (p t:Int) (n:Nat):(jf m p t n).length<=n:=by rw [jf,jV]; exact tr m p t n
structure MlP (d:Met × Int × Int):Prop where
 f:d.1.fs.length<=1000
 s:d.1.ss.length<=1000
noncomputable abbrev afx:aB:=bS Xn MlP fun d=>.sl 1 ((je d.1 d.2.1 d.2.2 d.1.fs.length).map nR)
noncomputable abbrev avb:=EV [] [] 29100 89 [(1,[3,50003])]
theorem az8:af avb [] Tryz.f291 afx:=pb <| by
 rintro⟨m,p,t⟩ ⟨hf,hs⟩;simp only at hf hs;simp -dsimp [Tryz.f291,avb];repeat' (first|omega|simp -dsimp [avb, *]|apply aI|apply nI|intro)
 refine dA [(7,29142,1,3)] rfl (by simp) [11,12,13,14,15,18,19,20,21,22,9,23,24,25,26,27,28,29,30,31,32,33,34,35,36,37,38,39,40,41,42,7,43,44,45,10,46,47,48,49,50,51,52,53,54,55,56,57,58,59,60,61,62,63,64,65,66,67,68,69,72,73,74,75,76,77,78,79,80,81,82,83,84,85,86,87,70,71,16,17,8] (fun k:{k:Nat // k<=m.fs.length}=>[(8,(true,.int .i64 k.1)),(7,(true,.bw 29142 0 (je m p t k.1).length))]) (fun k=>hps [(29109,{base:=k.1,ah:=[]}),(29142,{base:=0,ah:=[dP (je m p t k.1)]}),(29103,mS m)] cg) (fun k=>m.fs.length - k.1) ⟨0,by omega⟩ ?_ ?_ ?_
 ·simp [aj,aT,je,lW,fT]
 ·(try simp -dsimp only [hpx]); refine ai ?_; simp -dsimp [aC,dP,je,lW,fT,mS]<;>exact rz
 rintro⟨i,hi⟩;dsimp only;have hS:=Oo m p t i;have hlen:=Vv m p t i;have hlt:=fun x (hx:x∈je m p t i)=>aar hx;generalize hN:je m p t (i+1)=N at *;by_cases hi1:i<m.fs.length
 case neg=>
  have hin:¬ (i:Int)<m.fs.length:=by omega
  have hie:i=m.fs.length:=by omega
  subst hie;clear hS hN;simp -dsimp [hin];repeat' (first|omega|simp -dsimp [avb,hin,dP]|apply aI|apply nI|intro)
 generalize je m p t i=K0 at *;have hii:(i:Int)<m.fs.length:=by omega
 have wi:=wx i;obtain⟨x,hx,hx'⟩:=gx hi1;have lC:lD m i=x:=by simp [lD,List.getD,hx]
 have hoff:Am m p t i=false->N=K0:=fun h=>by rw [hS,h,if_neg (by simp)]
 have hdn:Am m p t i=decide (x.pl=p/\x.a<=t/\t<x.b):=by rw [Am,lC]
 by_cases c1:x.pl=p
 case neg=>
  have Ma:=hoff (by rw [hdn]; simp [c1]);have Kv:(x.pl=p)=False:=eq_false c1;simp -dsimp [hii];repeat' (first|omega|simp -dsimp [avb,hii,hi1,hx,hx',Fc.row,Kv,wi]|apply aI|apply nI|intro)
  refine⟨i+1,ag rfl ?_,?_,by omega,by omega⟩
  ·simp [aj,aT,hN,Ma]
  ·rw [hN,Ma]; (try simp -dsimp only [hpx]); refine ai ?_; simp -dsimp [aC]<;>exact rz
 by_cases c2:t<x.a
 case pos=>
  have Ma:=hoff (by rw [hdn]; simp; omega);simp -dsimp [hii];repeat' (first|omega|simp -dsimp [avb,hii,hi1,hx,hx',Fc.row,c1,c2,wi]|apply aI|apply nI|intro)
  refine⟨i+1,ag rfl ?_,?_,by omega,by omega⟩
  ·simp [aj,aT,hN,Ma]
  ·rw [hN,Ma]; (try simp -dsimp only [hpx]); refine ai ?_; simp -dsimp [aC]<;>exact rz
 by_cases c3:x.b<=t
 case pos=>
  have Ma:=hoff (by rw [hdn]; simp; omega);simp -dsimp [hii];repeat' (first|omega|simp -dsimp [avb,hii,hi1,hx,hx',Fc.row,c1,c2,c3,wi]|apply aI|apply nI|intro)
  refine⟨i+1,ag rfl ?_,?_,by omega,by omega⟩
  ·simp [aj,aT,hN,Ma]
  ·rw [hN,Ma]; (try simp -dsimp only [hpx]); refine ai ?_; simp -dsimp [aC]<;>exact rz
 have P7:Am m p t i=true:=by rw [hdn]; simp; omega
 rw [if_pos P7]at hS;have h8:(K0.length+1) * 8<=140737488355328:=by omega
 have wl:IntKind.wrap .i64 (K0.length:Int)=(K0.length:Nat):=aK (by omega) (by omega);have hap:(K0++[i]).map nR=K0.map nR++[[.int .i64 i]]:=by rw [List.map_append]; rfl
 simp -dsimp [hii];repeat' (first|omega|simp -dsimp [avb,hii,hi1,hx,hx',Fc.row,c1,c2,c3,dP,h8,wl]|apply aI|apply nI|intro)
 refine ay [46,47,48,49,50,51,52,53,54,55,56,57,58,59,60,61,62,63,64,65,66,67,68,69,72,73,74,75,76,77,78,79,80,81,82,83,84,85,86,87,70,71,10] (fun q:InJ (lX.fc m) N (K0.length+1) K0.length=>[(10,(true,.int .i64 q.j))]) (fun q=>hps [(29142,{base:=0,ah:=[dP q.M]}),(29109,{base:=i+1,ah:=[]}),(29103,mS m)] cg) (fun q=>q.j) ⟨K0++[i],K0.length,hS.symm,by simp,Nat.le_refl _,fun z hz=>by
  rcases List.mem_append.1 hz with hz|hz
  ·exact Nat.lt_trans (hlt z hz) hi1
  ·rw [List.mem_singleton.1 hz]; exact hi1⟩ ?_ ?_ ?_
 ·simp [aj,aT]
 ·(try simp -dsimp only [hpx]); refine ai ?_; simp -dsimp [aC,dP,nR,mS]<;>exact rz
 rintro⟨M,j,ht,hl,hj,SS⟩;dsimp only;cases j with
 | zero=>
  have e:M=N:=ht;subst e;simp -dsimp [dP];repeat' (first|omega|simp -dsimp [avb,wi,dP]|apply aI|apply nI|intro)
  refine⟨i+1,cq (aN rfl (br rfl (aN rfl bO))) ?_,?_,by omega,by omega⟩
  ·simp [aj,aT,hN,hl]
  ·rw [hN]; (try simp -dsimp only [hpx]); refine ai ?_; simp -dsimp [aC,dP,mS]<;>exact rz
 | succ k=>
  have aH:k+1<M.length:=by omega
  have kW:k<M.length:=by omega
  have hki:((k:Int)+1)<(K0.length:Int)+1:=by omega
  have Fq:(k:Int)<(K0.length:Int)+1:=by omega
  obtain⟨u,hu⟩:∃x,M[k+1]?=some x:=⟨_,List.getElem?_eq_getElem aH⟩
  obtain⟨v,hv⟩:∃x,M[k]?=some x:=⟨_,List.getElem?_eq_getElem kW⟩
  have hud:M.getD (k+1) 0=u:=by simp [List.getD,hu]
  have hvd:M.getD k 0=v:=by simp [List.getD,hv]
  have hun:u<m.fs.length:=hud ▸ SS _ (iQ aH);have hvn:v<m.fs.length:=hvd ▸ SS _ (iQ kW);have hui:(u:Int)<m.fs.length:=by omega
  have hvi:(v:Int)<m.fs.length:=by omega
  obtain⟨fu,HV⟩:∃x,m.fs[u]?=some x:=⟨_,List.getElem?_eq_getElem hun⟩
  obtain⟨fv,O4⟩:∃x,m.fs[v]?=some x:=⟨_,List.getElem?_eq_getElem hvn⟩
  have Vx:m.fs[u]=fu:=(List.getElem?_eq_some_iff.1 HV).2;have Vy:m.fs[v]=fv:=(List.getElem?_eq_some_iff.1 O4).2;have ku:(lX.fc m).key u=fu.aX:=by simp [lX.key,lD,List.getD,HV]
  have kv:(lX.fc m).key v=fv.aX:=by simp [lX.key,lD,List.getD,O4]
  have wk:IntKind.wrap .i64 (k:Int)=(k:Nat):=aK (by omega) (by omega);have hM':∀z∈(M.set (k+1) v).set k u,z<(lX.fc m).n:=fun z hz=>SS z (zf aH kW (by rw [hud,hvd]; exact hz));have hsk:sink (lX.fc m).key M (k+1)=if fu.aX<fv.aX then sink (lX.fc m).key ((M.set (k+1) v).set k u) k else M:=by rw [sink,hud,hvd,ku,kv]
  by_cases hc:fu.aX<fv.aX
  ·rw [hsk,if_pos hc]at ht;simp -dsimp [dP];repeat' (first|omega|simp -dsimp [avb,hki,Fq,aH,kW,hu,hv,hui,hvi,hun,hvn,HV,Vx,O4,Vy,Fc.row,hl,dP,nR,wk,hc]|apply aI|apply nI|intro)
   refine⟨⟨(M.set (k+1) v).set k u,k,ht,by simp [hl],by omega,hM'⟩,ag rfl ?_,?_,by simp only; omega⟩
   ·simp [aj,aT]
   ·(try simp -dsimp only [hpx]); refine ai ?_; simp -dsimp [aC,dP,nR,mS]<;>exact rz
  ·rw [hsk,if_neg hc]at ht;subst ht;simp -dsimp [dP];repeat' (first|omega|simp -dsimp [avb,hki,Fq,aH,kW,hu,hv,hui,hvi,hun,hvn,HV,Vx,O4,Vy,Fc.row,hl,dP,nR,wk,wi,hc]|apply aI|apply nI|intro)
   refine⟨i+1,cq (aN rfl (br rfl (aN rfl bO))) ?_,?_,by omega,by omega⟩
   ·simp [aj,aT,hN,hl]
   ·rw [hN]; (try simp -dsimp only [hpx]); refine ai ?_; simp -dsimp [aC,dP,nR,mS]<;>exact rz
theorem azr:FO 291 afx:=pf az8 .nil
end Go.Sx
end
section
namespace Go.Sx
open Go.Proofs
attribute [local simp] ri aa ints
attribute [local irreducible] bA
noncomputable abbrev afy:aB:=bS Xn MlP fun d=>.sl 1 ((jf d.1 d.2.1 d.2.2 d.1.ss.length).map nR)
noncomputable abbrev avc:=EV [] [] 29300 85 [(1,[3,50003])]
theorem az9:af avc [] Tryz.f293 afy:=pb <| by
 rintro⟨m,p,t⟩ ⟨hf,hs⟩;simp only at hf hs;simp -dsimp [Tryz.f293,avc];repeat' (first|omega|simp -dsimp [avc, *]|apply aI|apply nI|intro)
 refine dA [(7,29338,1,3)] rfl (by simp) [10,11,12,13,14,17,18,19,20,21,22,23,24,25,26,27,28,29,30,31,32,33,34,35,36,37,38,7,39,40,41,9,42,43,44,45,46,47,48,49,50,51,52,53,54,55,56,57,58,59,60,61,62,63,64,65,68,69,70,71,72,73,74,75,76,77,78,79,80,81,82,83,66,67,15,16,8] (fun k:{k:Nat // k<=m.ss.length}=>[(8,(true,.int .i64 k.1)),(7,(true,.bw 29338 0 (jf m p t k.1).length))]) (fun k=>hps [(29338,{base:=0,ah:=[dP (jf m p t k.1)]}),(29303,mS m)] cg) (fun k=>m.ss.length - k.1) ⟨0,by omega⟩ ?_ ?_ ?_
 ·simp [aj,aT,jf,seen,fT]
 ·(try simp -dsimp only [hpx]); refine ai ?_; simp -dsimp [aC,dP,jf,seen,fT,mS]<;>exact rz
 rintro⟨i,hi⟩;dsimp only;have hS:=Oq m p t i;have hlen:=Vw m p t i;have hlt:=fun x (hx:x∈jf m p t i)=>aas hx;generalize hN:jf m p t (i+1)=N at *;by_cases hi1:i<m.ss.length
 case neg=>
  have hin:¬ (i:Int)<m.ss.length:=by omega
  have hie:i=m.ss.length:=by omega
  subst hie;clear hS hN;simp -dsimp [hin];repeat' (first|omega|simp -dsimp [avc,hin,dP]|apply aI|apply nI|intro)
 generalize jf m p t i=K0 at *;have hii:(i:Int)<m.ss.length:=by omega
 have wi:=wx i;obtain⟨x,hx,hx'⟩:=gx hi1;have lC:lE m i=x:=by simp [lE,List.getD,hx]
 have hoff:wL m p t i=false->N=K0:=fun h=>by rw [hS,h,if_neg (by simp)]
 have hdn:wL m p t i=decide (x.pl=p/\x.at'<=t):=by rw [wL,lC]
 by_cases c1:x.pl=p
 case neg=>
  have Ma:=hoff (by rw [hdn]; simp [c1]);have Kv:(x.pl=p)=False:=eq_false c1;simp -dsimp [hii];repeat' (first|omega|simp -dsimp [avc,hii,hi1,hx,hx',Sg.row,Kv,wi]|apply aI|apply nI|intro)
  refine⟨i+1,ag rfl ?_,?_,by omega,by omega⟩
  ·simp [aj,aT,hN,Ma]
  ·rw [hN,Ma]; (try simp -dsimp only [hpx]); refine ai ?_; simp -dsimp [aC]<;>exact rz
 by_cases c2:t<x.at'
 case pos=>
  have Ma:=hoff (by rw [hdn]; simp; omega);simp -dsimp [hii];repeat' (first|omega|simp -dsimp [avc,hii,hi1,hx,hx',Sg.row,c1,c2,wi]|apply aI|apply nI|intro)
  refine⟨i+1,ag rfl ?_,?_,by omega,by omega⟩
  ·simp [aj,aT,hN,Ma]
  ·rw [hN,Ma]; (try simp -dsimp only [hpx]); refine ai ?_; simp -dsimp [aC]<;>exact rz
 have P7:wL m p t i=true:=by rw [hdn]; simp; omega
 rw [if_pos P7]at hS;have h8:(K0.length+1) * 8<=140737488355328:=by omega
 have wl:IntKind.wrap .i64 (K0.length:Int)=(K0.length:Nat):=aK (by omega) (by omega);have hap:(K0++[i]).map nR=K0.map nR++[[.int .i64 i]]:=by rw [List.map_append]; rfl
 simp -dsimp [hii];repeat' (first|omega|simp -dsimp [avc,hii,hi1,hx,hx',Sg.row,c1,c2,dP,h8,wl]|apply aI|apply nI|intro)
 refine ay [42,43,44,45,46,47,48,49,50,51,52,53,54,55,56,57,58,59,60,61,62,63,64,65,68,69,70,71,72,73,74,75,76,77,78,79,80,81,82,83,66,67,9] (fun q:InJ (lX.sg m) N (K0.length+1) K0.length=>[(9,(true,.int .i64 q.j))]) (fun q=>hps [(29338,{base:=0,ah:=[dP q.M]}),(29303,mS m)] cg) (fun q=>q.j) ⟨K0++[i],K0.length,hS.symm,by simp,Nat.le_refl _,fun z hz=>by
  rcases List.mem_append.1 hz with hz|hz
  ·exact Nat.lt_trans (hlt z hz) hi1
  ·rw [List.mem_singleton.1 hz]; exact hi1⟩ ?_ ?_ ?_
 ·simp [aj,aT]
 ·(try simp -dsimp only [hpx]); refine ai ?_; simp -dsimp [aC,dP,nR,mS]<;>exact rz
 rintro⟨M,j,ht,hl,hj,SS⟩;dsimp only;cases j with
 | zero=>
  have e:M=N:=ht;subst e;simp -dsimp [dP];repeat' (first|omega|simp -dsimp [avc,wi,dP]|apply aI|apply nI|intro)
  refine⟨i+1,cq (aN rfl (br rfl (aN rfl bO))) ?_,?_,by omega,by omega⟩
  ·simp [aj,aT,hN,hl]
  ·rw [hN]; (try simp -dsimp only [hpx]); refine ai ?_; simp -dsimp [aC,dP,mS]<;>exact rz
 | succ k=>
  have aH:k+1<M.length:=by omega
  have kW:k<M.length:=by omega
  have hki:((k:Int)+1)<(K0.length:Int)+1:=by omega
  have Fq:(k:Int)<(K0.length:Int)+1:=by omega
  obtain⟨u,hu⟩:∃x,M[k+1]?=some x:=⟨_,List.getElem?_eq_getElem aH⟩
  obtain⟨v,hv⟩:∃x,M[k]?=some x:=⟨_,List.getElem?_eq_getElem kW⟩
  have hud:M.getD (k+1) 0=u:=by simp [List.getD,hu]
  have hvd:M.getD k 0=v:=by simp [List.getD,hv]
  have hun:u<m.ss.length:=hud ▸ SS _ (iQ aH);have hvn:v<m.ss.length:=hvd ▸ SS _ (iQ kW);have hui:(u:Int)<m.ss.length:=by omega
  have hvi:(v:Int)<m.ss.length:=by omega
  obtain⟨fu,HV⟩:∃x,m.ss[u]?=some x:=⟨_,List.getElem?_eq_getElem hun⟩
  obtain⟨fv,O4⟩:∃x,m.ss[v]?=some x:=⟨_,List.getElem?_eq_getElem hvn⟩
  have Vx:m.ss[u]=fu:=(List.getElem?_eq_some_iff.1 HV).2;have Vy:m.ss[v]=fv:=(List.getElem?_eq_some_iff.1 O4).2;have ku:(lX.sg m).key u=fu.at':=by simp [lX.key,lE,List.getD,HV]
  have kv:(lX.sg m).key v=fv.at':=by simp [lX.key,lE,List.getD,O4]
  have wk:IntKind.wrap .i64 (k:Int)=(k:Nat):=aK (by omega) (by omega);have hM':∀z∈(M.set (k+1) v).set k u,z<(lX.sg m).n:=fun z hz=>SS z (zf aH kW (by rw [hud,hvd]; exact hz));have hsk:sink (lX.sg m).key M (k+1)=if fu.at'<fv.at' then sink (lX.sg m).key ((M.set (k+1) v).set k u) k else M:=by rw [sink,hud,hvd,ku,kv]
  by_cases hc:fu.at'<fv.at'
  ·rw [hsk,if_pos hc]at ht;simp -dsimp [dP];repeat' (first|omega|simp -dsimp [avc,hki,Fq,aH,kW,hu,hv,hui,hvi,hun,hvn,HV,Vx,O4,Vy,Sg.row,hl,dP,nR,wk,hc]|apply aI|apply nI|intro)
   refine⟨⟨(M.set (k+1) v).set k u,k,ht,by simp [hl],by omega,hM'⟩,ag rfl ?_,?_,by simp only; omega⟩
   ·simp [aj,aT]
   ·(try simp -dsimp only [hpx]); refine ai ?_; simp -dsimp [aC,dP,nR,mS]<;>exact rz
  ·rw [hsk,if_neg hc]at ht;subst ht;simp -dsimp [dP];repeat' (first|omega|simp -dsimp [avc,hki,Fq,aH,kW,hu,hv,hui,hvi,hun,hvn,HV,Vx,O4,Vy,Sg.row,hl,dP,nR,wk,wi,hc]|apply aI|apply nI|intro)
   refine⟨i+1,cq (aN rfl (br rfl (aN rfl bO))) ?_,?_,by omega,by omega⟩
   ·simp [aj,aT,hN,hl]
   ·rw [hN]; (try simp -dsimp only [hpx]); refine ai ?_; simp -dsimp [aC,dP,nR,mS]<;>exact rz
theorem azs:FO 293 afy:=pf az9 .nil
end Go.Sx
end
section
namespace Go.Sx
open Go.Proofs
attribute [local simp] ri aa ints
attribute [local irreducible] bA
def DJ (k:cR):Site:={base:=0,ah:=[{z:=8,els:=[k.row],ty:=25}]}
theorem Mb (a1 a2 a3 a4 a5 a6 b1 b2 b3 b4 b5 b6:Int) (a7 a8 b7 b8:Bool):aY Vs [.agg [.int .i64 a1,.int .i64 a2,.int .i64 a3,.int .i64 a4,.int .i64 a5,.int .i64 a6,.bool a7,.bool a8],.agg [.int .i64 b1,.int .i64 b2,.int .i64 b3,.int .i64 b4,.int .i64 b5,.int .i64 b6,.bool b7,.bool b8]]=(⟨⟨a1,a2⟩,⟨a3,a4⟩,⟨a5,a6⟩,a7,a8⟩,⟨⟨b1,b2⟩,⟨b3,b4⟩,⟨b5,b6⟩,b7,b8⟩):=aA Vt (⟨⟨a1,a2⟩,⟨a3,a4⟩,⟨a5,a6⟩,a7,a8⟩,⟨⟨b1,b2⟩,⟨b3,b4⟩,⟨b5,b6⟩,b7,b8⟩)
noncomputable abbrev afz:aB:=bS Xn EC fun d=>.dB [.agg (ED d.1 d.2.1 d.2.2).row,.sl 1 ((Al d.1 d.2.1 d.2.2).2.map nR)]
noncomputable abbrev avi:=EV [(291,.pure afx),(292,.pure Vu),(293,.pure afy),(294,.pure ctW),(295,.pure MT)] [] 27500 132 [(1,[3,50003])]
theorem aAa:af avi [(7,([2000,2,5,6,7,9,10],[[0,1,2,3,4,5,6,7,8,9,10,11,12,13,14,15,16]])),(15,([1,4,5,6,7],[[0,1,2,3,4,5,6,7,8,9]]))] Tryz.f275 afz:=pb <| by
 rintro⟨m,p,t⟩ ⟨hok,hf,hs,ht⟩;simp only at hok hf hs ht;have hF:=Be hok;have hMl:MlP (m,p,t):=⟨by simp only; omega,by simp only; omega⟩
 have hLb:∀x∈lW m p t m.fs.length,x<m.fs.length:=fun x hx=>(CJ hx).1;have hLl:=tn m p t m.fs.length;have hKl:(je m p t m.fs.length).length=(lW m p t m.fs.length).length:=jV _ _;have hKb:∀x∈je m p t m.fs.length,x<m.fs.length:=Ko hLb;have hFe:Al m p t=fq m (je m p t m.fs.length) (je m p t m.fs.length).length:=rfl;have hGa:∀x∈jf m p t m.ss.length,x<m.ss.length/\(lE m x).at'<=t:=fun x hx=>by have:=xo (mQ.1 hx);simp only [wL,decide_eq_true_eq]at this;exact⟨this.1,this.2.2⟩
 have hGl:(jf m p t m.ss.length).length=(seen m p t m.ss.length).length:=jV _ _;have amC:=tr m p t m.ss.length;simp -dsimp [Tryz.f275,avi];repeat' (first|omega|simp -dsimp [avi,tj,hMl,cR.row]|apply aI|apply nI|intro)
 generalize je m p t m.fs.length=K at *;generalize lW m p t m.fs.length=L at *;refine dA [(9,27552,1,3)] rfl (by simp) [24,25,26,27,31,32,33,34,35,36,37,38,39,40,41,30,42,43,12,13,44,45,46,47,48,49,50,51,52,9,28,29,11] (fun k:{k:Nat // k<=K.length}=>[(11,(true,.int .i64 k.1)),(9,(true,.bw 27552 0 (fq m K k.1).2.length))]) (fun k=>hps [(27512,{base:=k.1,ah:=[]}),(27552,{base:=0,ah:=[dP (fq m K k.1).2]}),(27508,DJ (fq m K k.1).1),(27506,DJ ⟨⟨0,0⟩,⟨0,0⟩,⟨0,0⟩,false,false⟩),(27503,mS m)] cg) (fun k=>K.length - k.1) ⟨0,by omega⟩ ?_ ?_ ?_
 ·simp [aj,aT,fq]
 ·(try simp -dsimp only [hpx]); refine ai ?_; simp -dsimp [aC,dP,fq,DJ,mS,cR.row]<;>exact rz
 rintro⟨k,hk⟩;dsimp only;by_cases aH:k<K.length
 ·have hki:(k:Int)<K.length:=by omega
  have wk:=wx k;obtain⟨q,hq,EE⟩:=gx aH;have EF:q<m.fs.length:=hKb q (EE ▸ List.getElem_mem aH);have hqi:(q:Int)<m.fs.length:=by omega
  obtain⟨x,hx,hx'⟩:=gx EF;have lC:lD m q=x:=by simp [lD,List.getD,hx]
  have r4:(fq m K (k+1)).1=(pz (fq m K k).1 x.k).1:=by simp [fq,List.getD,hq,lC]
  have HB:(fq m K (k+1)).2=(fq m K k).2++if (pz (fq m K k).1 x.k).2=true then [q]else []:=by simp [fq,List.getD,hq,lC]
  have hSl:=pG m K k;have h8:((fq m K k).2.length+1) * 8<=140737488355328:=by omega
  generalize (fq m K k).1=Kp at *;generalize (fq m K k).2=Sp0 at *;obtain⟨⟨w1,w2⟩,⟨s1,s2⟩,⟨c1,c2⟩,ic,st⟩:=Kp;obtain⟨x1,x2,x3,x4,⟨⟨y1,y2⟩,⟨y3,y4⟩,⟨y5,y6⟩,yi,ys⟩⟩:=x;simp only at r4 HB;rw [mh]at r4;cases hc:(pz ⟨⟨w1,w2⟩,⟨s1,s2⟩,⟨c1,c2⟩,ic,st⟩ ⟨⟨y1,y2⟩,⟨y3,y4⟩,⟨y5,y6⟩,yi,ys⟩).2
  ·rw [hc,if_neg (by simp),List.append_nil]at HB;simp -dsimp [aS,cQ,hki,DJ,cR.row];repeat' (first|omega|simp -dsimp [avi,aS,cQ,hki,aH,hq,EE,EF,hqi,hx,hx',Fc.row,dP,nR,DJ,cR.row,Mb,hc,mh,wk]|apply aI|apply nI|intro)
   all_goals
    refine⟨k+1,ag rfl ?_,?_,by omega,by omega⟩
    ·simp [aj,aT,HB]
    ·rw [r4,HB];exact(by(try simp -dsimp only [hpx]); refine ai ?_; simp -dsimp [aC,dP,nR,DJ,cR.row]<;>exact rz)
  ·rw [hc,if_pos rfl]at HB;simp -dsimp [aS,cQ,hki,DJ,cR.row];repeat' (first|omega|simp -dsimp [avi,aS,cQ,hki,aH,hq,EE,EF,hqi,hx,hx',Fc.row,dP,nR,DJ,cR.row,Mb,hc,mh,wk,h8]|apply aI|apply nI|intro)
   all_goals
    refine⟨k+1,ag rfl ?_,?_,by omega,by omega⟩
    ·simp [aj,aT,HB]
    ·rw [r4,HB];exact(by(try simp -dsimp only [hpx]); refine ai ?_; simp -dsimp [aC,dP,nR,DJ,cR.row]<;>exact rz)
 have hkn:¬ (k:Int)<K.length:=by omega
 have hke:k=K.length:=by omega
 subst hke;rw [<-hFe];clear hk aH;have aqa:(Al m p t).2.length<=K.length:=by rw [hFe]; exact pG m K _
 have hKm:ED m p t=qR m t (jf m p t m.ss.length) (Al m p t).1 (jf m p t m.ss.length).length:=rfl;generalize hMF:Al m p t=MF at *;obtain⟨k0,Ss⟩:=MF;simp only at aqa;simp -dsimp [hkn];repeat' (first|omega|simp -dsimp [avi,hkn,tj,hMl,dP]|apply aI|apply nI|intro)
 generalize jf m p t m.ss.length=G at *;generalize seen m p t m.ss.length=L2 at *;refine ay [57,58,59,60,63,64,65,66,67,68,69,70,16,71,72,73,74,17,76,77,78,79,80,81,82,83,84,85,86,75,87,88,89,91,92,93,94,95,96,97,98,99,100,101,90,102,103,104,106,107,108,109,110,111,112,113,114,115,116,105,117,118,119,120,121,122,123,124,125,126,127,128,129,61,62,15] (fun k:{k:Nat // k<=G.length}=>[(15,(true,.int .i64 k.1))]) (fun k=>hps [(27516,{base:=k.1,ah:=[]}),(27508,DJ (qR m t G k0 k.1)),(27512,{base:=K.length,ah:=[]}),(27552,{base:=0,ah:=[dP Ss]}),(27506,DJ ⟨⟨0,0⟩,⟨0,0⟩,⟨0,0⟩,false,false⟩),(27503,mS m)] cg) (fun k=>G.length - k.1) ⟨0,by omega⟩ ?_ ?_ ?_
 ·simp [aj,aT]
 ·(try simp -dsimp only [hpx]); refine ai ?_; simp -dsimp [aC,dP,qR]<;>exact rz
 rintro⟨k,hk⟩;dsimp only;by_cases aH:k<G.length
 ·have hki:(k:Int)<G.length:=by omega
  have wk:=wx k;obtain⟨q,hq,EE⟩:=gx aH;obtain⟨EF,hqt⟩:=hGa q (EE ▸ List.getElem_mem aH);have hqi:(q:Int)<m.ss.length:=by omega
  obtain⟨x,hx,hx'⟩:=gx EF;have lC:lE m q=x:=by simp [lE,List.getD,hx]
  rw [lC]at hqt;have r4:qR m t G k0 (k+1)=EG m t (qR m t G k0 k) x:=by simp [qR,List.getD,hq,lC]
  obtain⟨Rl,hxw,hxs,hxc⟩:=hF.g x (hx' ▸ List.getElem_mem EF);obtain⟨OY,hms,hmc⟩:=And.intro hF.w (And.intro hF.s hF.c);have hn0:0<=t - x.at'/\t - x.at'<=2000:=by omega
  unfold EG at r4;obtain⟨n,hne⟩:∃n,t - x.at'=n:=⟨_,rfl⟩
  rw [hne]at r4 hn0;have w0:IntKind.wrap .i64 (t - x.at')=n:=by rw [aK (by omega) (by omega),hne]
  have Xq:∀c:Int,0<=c/\c<=20000->0<=n * c/\n * c<=40000000:=fun c hc=>⟨Int.mul_nonneg hn0.1 hc.1,by have:=Int.mul_le_mul hn0.2 hc.2 hc.1 (by omega:(0:Int)<=2000);omega⟩
  have p1:=Xq _ OY;have p2:=Xq _ hms;have p3:=Xq _ hmc;clear Xq;obtain⟨n1,MR⟩:∃n1,n * m.w=n1:=⟨_,rfl⟩
  obtain⟨n2,hn2⟩:∃n2,n * m.s=n2:=⟨_,rfl⟩
  obtain⟨n3,hn3⟩:∃n3,n * m.c=n3:=⟨_,rfl⟩
  rw [MR]at r4 p1;rw [hn2]at r4 p2;rw [hn3]at r4 p3;have w1:IntKind.wrap .i64 (n * m.w)=n1:=by rw [MR]; exact aK (by omega) (by omega)
  have w2:IntKind.wrap .i64 (n * m.s)=n2:=by rw [hn2]; exact aK (by omega) (by omega)
  have w3:IntKind.wrap .i64 (n * m.c)=n3:=by rw [hn3]; exact aK (by omega) (by omega)
  clear MR hn2 hn3 hne;generalize yB:Kq x.k.w n1 300=A1 at *;generalize Wm:Kq x.k.s n2 20000=A2 at *;generalize hA3:Kq x.k.c n3 20000=A3 at *;obtain⟨a1,b1⟩:=A1;obtain⟨a2,b2⟩:=A2;obtain⟨a3,b3⟩:=A3;generalize hKp:qR m t G k0 k=Kp at *;obtain⟨⟨w1',w2'⟩,⟨s1,s2⟩,⟨c1,c2⟩,ic,st⟩:=Kp;simp only at r4;by_cases hn:n=0
  ·rw [if_pos hn,if_pos hn]at r4;have hn':(n=0)=True:=eq_true hn;simp -dsimp [aS,cQ,hki,DJ,cR.row];repeat' (first|omega|simp -dsimp [avi,aS,cQ,hki,aH,hq,EE,EF,hqi,hx,hx',Sg.row,Sp.row,eE,dP,nR,DJ,cR.row,wk,w0,w1,w2,w3,yB,Wm,hA3,hn',hxw,hxs,hxc,p1,p2,p3]|apply aI|apply nI|intro)
   all_goals
    refine⟨k+1,ag rfl ?_,?_,by omega,by omega⟩
    ·simp [aj,aT]
    ·rw [r4];exact(by(try simp -dsimp only [hpx]); refine ai ?_; simp -dsimp [aC,dP,nR,DJ,cR.row]<;>exact rz)
  ·rw [if_neg hn,if_neg hn]at r4;have hn':(n=0)=False:=eq_false hn;simp -dsimp [aS,cQ,hki,DJ,cR.row];repeat' (first|omega|simp -dsimp [avi,aS,cQ,hki,aH,hq,EE,EF,hqi,hx,hx',Sg.row,Sp.row,eE,dP,nR,DJ,cR.row,wk,w0,w1,w2,w3,yB,Wm,hA3,hn',hxw,hxs,hxc,p1,p2,p3]|apply aI|apply nI|intro)
   all_goals
    refine⟨k+1,ag rfl ?_,?_,by omega,by omega⟩
    ·simp [aj,aT]
    ·rw [r4];exact(by(try simp -dsimp only [hpx]); refine ai ?_; simp -dsimp [aC,dP,nR,DJ,cR.row]<;>exact rz)
 have hkn:¬ (k:Int)<G.length:=by omega
 have hke:k=G.length:=by omega
 subst hke;rw [<-hKm];simp -dsimp [hkn,DJ,cR.row];repeat' (first|omega|simp -dsimp [avi,hkn,DJ,cR.row,dP,hMF]|apply aI|apply nI|intro)
theorem azd:FO 275 afz:=pf aAa (.cons azr (.cons azp (.cons azs (.cons ayd (.cons azq .nil)))))
end Go.Sx
end
end
