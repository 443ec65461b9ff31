/- A part of a proof; no conditions. -/
import Derived.Test.YtegiclpanpmkdaaGreatDoorR24
import Derived.Test.YtegiclpanpmkdaaGreatDoorR66
import Derived.Test.YtegiclpanpmkdaaGreatDoorR38
set_option linter.all false
set_option maxRecDepth 100000
set_option maxHeartbeats 8000000
noncomputable section
section
namespace Go.Sx
open Go.Proofs
attribute [local simp] ri aa ints
attribute [local irreducible] bA
def MO(N k:Nat):List (List V):=(List.range k).map fun j=>[.bw 23236 j N]
theorem Km(N:Nat){a n:Nat}(h:a<n):(MO N n)[a]?=some [.bw 23236 a N]:=by simp [MO,h]
theorem CG(N k:Nat):(MO N k).length=k:=by simp [MO]
theorem axz(N k:Nat):MO N (k+1)=MO N k++[[.bw 23236 k N]]:=by simp [MO,List.range_succ]
def uy(N k:Nat):Site:={base:=0,ah:=[{z:=1,els:=MO N k,ty:=43,cl:=decide (k=0)}]}
theorem MP{h:Hp}{T:T2}{n:Nat}(h1:h 23236={base:=0,ah:=T.map gz})(h2:h 23240={base:=0,ah:=[{z:=1,els:=MO n n,ty:=43,cl:=false}]})(hT:Sq n T):ak 3 h (.bw 23240 0 n)=(True,mL T):=by
 have e:dc (ak 2 h) (MO n n)=(True,(List.range n).map fun j=>[.sl 1 ((T.getD j []).map ri)]):=by
  refine jy fun j hj=>?_;have hj:j<n:=by simpa using hj
  have hi:j<T.length:=by rw [hT.1];exact hj
  have hg:aL h 23236 j=some (gz T[j]):=by simp [aL,h1,hi]
  have hl:=hT.2 _ (List.getElem_mem hi);have hd:T.getD j []=T[j]:=by simp [List.getD,hi]
  have:ak 2 h (.bw 23236 j n)=(True,.sl 1 ((T.getD j []).map ri)):=by rw [ak,hg];simp only [bV,gz,List.length_map,hl,hd,true_and,if_true]
  simp only [cL,this,V.leaf];simp
 have e2:(List.range n).map (fun j=>[V.sl 1 ((T.getD j []).map ri)])=T.map fun r=>[V.sl 1 (r.map ri)]:=by
  have:=rM T [] fun r=>[V.sl 1 (r.map ri)]
  rw [hT.1]at this;exact this
 have hg:aL h 23240 0=some {z:=1,els:=MO n n,ty:=43,cl:=false}:=by simp [aL,h2]
 rw [ak,hg];simp only [bV,e,e2,CG,mL,and_self]
noncomputable abbrev ack:aB:=bS tiE (fun d=>MQ d.1 d.2) fun d=>mL (rV d.1.n.toNat d.2)
noncomputable abbrev Om:=EV [(278,.pure acm)] [39] 23200 119 [(1,[2,50002])]
theorem apK:af Om [] Tryz.f232 ack:=pb <| by
 rintro⟨m,l⟩ ⟨hok,v9⟩;simp only at hok v9;have vx:=yd hok;have v4:=uP (by omega) v9;obtain⟨n,hn⟩:∃n:Nat,m.n=n:=⟨m.n.toNat,by omega⟩
 rw [hn]at vx v4;simp only [Int.toNat_natCast]at v4;have PU:n<=8:=by omega
 have MR:1<=n:=by omega
 simp only [o9,Bool.and_eq_true,decide_eq_true_eq,Bool.not_eq_true']at v9;have Re:l.length<=20:=v9.1;have vd:=yy v4;have aL:∀a b,a<n->b<n->g2 (wJ n l) a b=if a=b then 0 else kK l a b l.length:=fun a b ha hb=>by
  rw [wJ,yz (qv v4 (Nat.le_refl _)) (Nat.le_refl n),tc v4 (Nat.le_refl _) a b ha hb];by_cases e:a=b
  ·rw [if_pos ⟨e,ha⟩,if_pos e]
  ·rw [if_neg (fun h=>e h.1),if_neg e]
 have vy:rV n l=lU (wJ n l) n n:=rfl;have vV:Sq n (rV n l):=(yA v4 PU).sq;have acn:=vd.sq;generalize vW:rV n l=TT at *;generalize wJ n l=T at *;simp -dsimp [Tryz.f232,Om];repeat' first|omega|simp -dsimp [Om,hn]|apply aI|apply nI|intro
 refine dA [(5,23240,1,43)] rfl (by simp) [14,15,16,17,7,8,20,21,22,23,26,27,28,29,9,30,31,32,33,34,35,36,24,25,37,38,39,40,5,18,19,6] (fun k:{k:Nat // k<=n}=>[(6,(true,.int .i64 k.1)),(5,(true,.bw 23240 0 k.1))]) (fun k=>hps [(23236,eF (T.take k.1)),(23240,uy n k.1),(23239,{base:=k.1,ah:=[]}),(23202,mS m)] cg) (fun k=>n - k.1) ⟨0,by omega⟩ ?_ ?_ ?_
 ·simp [aj,aT]
 ·(try simp -dsimp only [hpx]);refine ai ?_;simp -dsimp [aC,eF,uy,MO,mS]<;>exact rz
 rintro⟨k,hk⟩;dsimp only;by_cases aH:k<n
 ·have va:(k:Int)<n:=by omega
  have wk:=wx k;have td:k<T.length:=by rw [acn.1];exact aH
  obtain⟨r,hr,hr'⟩:=gx td;have wK:r.length=n:=hr' ▸ acn.2 _ (List.getElem_mem td);have vX:T.take (k+1)=T.take k++[r]:=by rw [List.take_add_one,hr];rfl
  have z0:∀b,b<n->r[b]?=some (if k=b then 0 else kK l k b l.length):=fun b hb=>by rw [<-aL k b aH hb,g2];have:T.getD k []=r:=(by simp [List.getD,hr]);rw [this];simp [List.getD,wK,hb]
  have z1:(T.take k).length=k:=by simp;omega
  generalize z2:T.take (k+1)=L1 at *;generalize T.take k=L at *;simp -dsimp [va,eF,uy,mS];repeat' first|omega|simp -dsimp [Om,va,hn,eF,uy]|apply aI|apply nI|intro
  refine dA [(7,23236,1,3)] rfl (by simp) [20,21,22,23,26,27,28,29,9,30,31,32,33,34,35,36,7,24,25,8] (fun b:{b:Nat // b<=n}=>[(8,(true,.int .i64 b.1)),(7,(true,.bw 23236 L.length b.1))]) (fun b=>hps [(23236,{base:=0,ah:=L.map gz++[gz (r.take b.1)]}),(23240,uy n k),(23239,{base:=k,ah:=[]}),(23202,mS m)] cg) (fun b=>n - b.1) ⟨0,by omega⟩ ?_ ?_ ?_
  ·simp [aj,aT]
  ·(try simp -dsimp only [hpx]);refine ai ?_;simp -dsimp [aC,eF,uy,mS,gz]<;>exact rz
  rintro⟨b,hb⟩;dsimp only;by_cases ez:b<n
  ·have sN:(b:Int)<n:=(by omega);have wb:=wx b;have hx:=z0 b ez;have MS:List.take (b+1) (r.map ri)=(r.take b).map ri++[ri (if k=b then 0 else kK l k b l.length)]:=(by rw [<-List.map_take,List.take_add_one,hx];simp);have z3:((r.take b).map ri).length=b:=(by simp;omega);generalize r.take b=r0 at *;generalize hv:kK l k b l.length=v at *;have mK:(((k:Int)=b)=True/\(if k=b then (0:Int)else v)=0)\/(((k:Int)=b)=False/\(if k=b then (0:Int)else v)=v):=by
    by_cases e:k=b
    ·exact .inl ⟨eq_true (by omega),if_pos e⟩
    ·exact .inr ⟨eq_false (by omega),if_neg e⟩
   rcases mK with⟨c,hy⟩|⟨c,hy⟩
   all_goals
    rw [hy]at MS;simp -dsimp [sN,gz,uy,mS];repeat' first|omega|simp -dsimp [Om,sN,hn,va,Xj,Re,hv,c,gz,uy,z3,wb,EB]|apply aI|apply nI|intro
    all_goals
     refine⟨b+1,ag rfl ?_,?_,by omega,by omega⟩
     ·simp [aj,aT]
     ·rw [MS];(try simp -dsimp only [hpx]);refine ai ?_;simp -dsimp [aC,eF,uy,mS,gz,ri]<;>exact rz
  have Hw:¬ (b:Int)<n:=by omega
  have JN:b=n:=by omega
  subst JN;have MS:r.take b=r:=by rw [<-wK,List.take_length]
  rw [MS];simp -dsimp [Hw,gz,uy,mS];repeat' first|omega|simp -dsimp [Om,Hw,uy,CG,wk]|apply aI|apply nI|intro
  refine⟨k+1,cq (aN rfl (br rfl (aN rfl bO))) ?_,⟨by omega,?_⟩,by omega⟩
  ·simp [aj,aT]
  ·have e1:List.take (k+1) (T.map gz)=L.map gz++[gz r]:=(by rw [<-List.map_take,z2,vX];simp);have e2:decide (k+1=0)=false:=rfl;rw [z1] ;exact(by(try simp -dsimp only [hpx]);refine ai ?_;simp -dsimp [aC,eF,uy,mS,gz,e1,e2,axz]<;>exact rz)
 have vr:¬ (k:Int)<n:=by omega
 have z4:k=n:=by omega
 subst z4;have z5:T.take k=T:=by rw [<-acn.1,List.take_length]
 have z6:decide (k=0)=false:=decide_eq_false (by omega);rw [z5];simp -dsimp [vr];repeat' first|omega|simp -dsimp [Om,vr]|apply aI|apply nI|intro
 generalize k=n at *;refine ay [41,42,43,44,11,47,48,49,50,12,53,54,55,56,59,60,61,62,63,64,65,66,67,68,69,70,71,72,73,74,75,76,77,78,79,80,81,82,83,84,85,86,87,88,89,90,91,13,92,93,94,95,96,97,98,99,100,101,102,103,104,105,106,107,108,109,110,111,112,113,114,115,116,117,57,58,51,52,45,46,10] (fun y:{y:Nat // y<=n}=>[(10,(true,.int .i64 y.1))]) (fun y=>hps [(23236,eF (lU T n y.1)),(23240,uy n n),(23239,{base:=n,ah:=[]}),(23202,mS m)] cg) (fun y=>n - y.1) ⟨0,by omega⟩ ?_ ?_ ?_
 ·simp [aj,aT]
 ·(try simp -dsimp only [hpx]);refine ai ?_;simp -dsimp [aC,eF,uy,mS,lU]<;>exact rz
 rintro⟨y,hy⟩;dsimp only;by_cases v1:y<n
 case neg=>
  have OX:¬ (y:Int)<n:=by omega
  have z7:y=n:=by omega
  rw [z7,<-vy];have hle:∀h:Hp,h 23236={base:=0,ah:=TT.map gz}->h 23240={base:=0,ah:=[{z:=1,els:=MO n n,ty:=43,cl:=false}]}->ak 3 h (.bw 23240 0 n)=(True,mL TT):=fun h h1 h2=>MP h1 h2 vV;simp -dsimp [OX,-ak];repeat' first|omega|simp -dsimp [Om,OX,hn,-ak,hle,eF,uy,z6,vW,mL]|apply aI|apply nI|intro
 have Rf:(y:Int)<n:=by omega
 have wy:=wx y;have z8:lU T n (y+1)=oc (lU T n y) n y n:=rfl;simp -dsimp [Rf];repeat' first|omega|simp -dsimp [Om,Rf,hn]|apply aI|apply nI|intro
 refine ay [47,48,49,50,12,53,54,55,56,59,60,61,62,63,64,65,66,67,68,69,70,71,72,73,74,75,76,77,78,79,80,81,82,83,84,85,86,87,88,89,90,91,13,92,93,94,95,96,97,98,99,100,101,102,103,104,105,106,107,108,109,110,111,112,113,114,115,116,117,57,58,51,52,11] (fun a:{a:Nat // a<=n}=>[(11,(true,.int .i64 a.1))]) (fun a=>hps [(23236,eF (oc (lU T n y) n y a.1)),(23240,uy n n),(23239,{base:=n,ah:=[]}),(23202,mS m)] cg) (fun a=>n - a.1) ⟨0,by omega⟩ ?_ ?_ ?_
 ·simp [aj,aT]
 ·(try simp -dsimp only [hpx]);refine ai ?_;simp -dsimp [aC,eF,uy,mS,oc]<;>exact rz
 rintro⟨a,ha⟩;dsimp only;by_cases v2:a<n
 case neg=>
  have Kn:¬ (a:Int)<n:=by omega
  have z9:a=n:=by omega
  rw [z9,<-z8];simp -dsimp [Kn];repeat' first|omega|simp -dsimp [Om,Kn,wy]|apply aI|apply nI|intro
  refine⟨y+1,cq (aN rfl (br rfl (aN rfl bO))) ?_,bA.refl _,by omega,by omega⟩;simp [aj,aT]
 have v6:(a:Int)<n:=by omega
 have wa:=wx a;have rj:oc (lU T n y) n y (a+1)=ov (oc (lU T n y) n y a) y a n:=rfl;simp -dsimp [v6];repeat' first|omega|simp -dsimp [Om,v6,hn]|apply aI|apply nI|intro
 refine ay [53,54,55,56,59,60,61,62,63,64,65,66,67,68,69,70,71,72,73,74,75,76,77,78,79,80,81,82,83,84,85,86,87,88,89,90,91,13,92,93,94,95,96,97,98,99,100,101,102,103,104,105,106,107,108,109,110,111,112,113,114,115,116,117,57,58,12] (fun b:{b:Nat // b<=n}=>[(12,(true,.int .i64 b.1))]) (fun b=>hps [(23236,eF (ov (oc (lU T n y) n y a) y a b.1)),(23240,uy n n),(23239,{base:=n,ah:=[]}),(23202,mS m)] cg) (fun b=>n - b.1) ⟨0,by omega⟩ ?_ ?_ ?_
 ·simp [aj,aT]
 ·(try simp -dsimp only [hpx]);refine ai ?_;simp -dsimp [aC,eF,uy,mS,ov]<;>exact rz
 rintro⟨b,hb⟩;dsimp only;by_cases ez:b<n
 case neg=>
  have Hw:¬ (b:Int)<n:=by omega
  have JN:b=n:=by omega
  rw [JN,<-rj];simp -dsimp [Hw];repeat' first|omega|simp -dsimp [Om,Hw,wa]|apply aI|apply nI|intro
  refine⟨a+1,cq (aN rfl (br rfl (aN rfl bO))) ?_,bA.refl _,by omega,by omega⟩;simp [aj,aT]
 have sN:(b:Int)<n:=by omega
 have wb:=wx b;have hG:=Rg vd PU v1 v2 hb;have yB:ov (oc (lU T n y) n y a) y a (b+1)=if 0<=g2 (ov (oc (lU T n y) n y a) y a b) a y/\0<=g2 (ov (oc (lU T n y) n y a) y a b) y b then sh (ov (oc (lU T n y) n y a) y a b) a b (g2 (ov (oc (lU T n y) n y a) y a b) a y+g2 (ov (oc (lU T n y) n y a) y a b) y b)else ov (oc (lU T n y) n y a) y a b:=rfl;generalize Rh:ov (oc (lU T n y) n y a) y a (b+1)=U1 at *;generalize ov (oc (lU T n y) n y a) y a b=U at *;have bx:=hG.co a v2;have bz:=hG.ro b ez;have bx0:=hG.lo a y v2 v1;have bz0:=hG.lo y b v1 ez;have v7:=hG.sq;obtain⟨r,hr,wK,hv⟩:=jd v7 v2 v1;obtain⟨r',hr',Hx,fJ⟩:=jd v7 v1 ez;obtain⟨r'',ahD,arH,Xk⟩:=jd v7 v2 ez;have er:r''=r:=by rw [hr]at ahD;exact(Option.some.inj ahD).symm
 subst er;have jP:=(List.getElem?_eq_some_iff.1 hr).2;have oR:=(List.getElem?_eq_some_iff.1 hv).2;have pe:=(List.getElem?_eq_some_iff.1 hr').2;have pg:=(List.getElem?_eq_some_iff.1 fJ).2;have Ri:=(List.getElem?_eq_some_iff.1 Xk).2;have tf:a<U.length:=by rw [v7.1];exact v2
 have Hy:y<U.length:=by rw [v7.1];exact v1
 have Xl:y<r''.length:=by omega
 have Hz:b<r'.length:=by omega
 have Rj:b<r''.length:=by omega
 have ho:=Km n v2;have Ak:=(List.getElem?_eq_some_iff.1 ho).2;have ho':=Km n v1;have HA:=(List.getElem?_eq_some_iff.1 ho').2;have jU:=CG n n;have ow:=CH (b:=b) hr;have hsh:∀x,sh U a b x=if g2 U a b<0\/x<g2 U a b then s2 U a b x else U:=fun x=>rfl;generalize hX:g2 U a y=X at *;generalize hY:g2 U y b=Y at *;generalize hZ:g2 U a b=Z at *;have wx:=wi (X+Y);have uQ:∀U2:T2,U1=U2->U1.map gz=U2.map gz:=fun U2 h=>by rw [h]
 by_cases c1:X<0
 ·have hU:U1=U:=by rw [yB,if_neg (by omega)]
  simp -dsimp [sN,eF,uy,mS];repeat' first|omega|simp -dsimp [Om,sN,eF,uy,gz,ho,Ak,ho',HA,jU,hr,jP,hr',pe,hv,oR,fJ,pg,Xk,Ri,tf,Hy,Xl,Hz,Rj,wK,Hx,v2,v1,ez,v6,Rf,ri,wb,c1]|apply aI|apply nI|intro
  refine⟨b+1,ag rfl ?_,?_,by omega,by omega⟩
  ·simp [aj,aT]
  ·rw [Rh,hU];(try simp -dsimp only [hpx]);refine ai ?_;simp -dsimp [aC,eF,uy,mS]<;>exact rz
 by_cases c2:Y<0
 ·have hU:U1=U:=by rw [yB,if_neg (by omega)]
  replace c1:(X<0)=False:=eq_false c1;simp -dsimp [sN,eF,uy,mS];repeat' first|omega|simp -dsimp [Om,sN,eF,uy,gz,ho,Ak,ho',HA,jU,hr,jP,hr',pe,hv,oR,fJ,pg,Xk,Ri,tf,Hy,Xl,Hz,Rj,wK,Hx,v2,v1,ez,v6,Rf,ri,wb,c1,c2]|apply aI|apply nI|intro
  refine⟨b+1,ag rfl ?_,?_,by omega,by omega⟩
  ·simp [aj,aT]
  ·rw [Rh,hU];(try simp -dsimp only [hpx]);refine ai ?_;simp -dsimp [aC,eF,uy,mS]<;>exact rz
 have hU:U1=if Z<0\/X+Y<Z then s2 U a b (X+Y)else U:=by rw [yB,if_pos (by omega),hsh]
 replace c1:(X<0)=False:=eq_false c1;replace c2:(Y<0)=False:=eq_false c2;rcases Classical.propComplete (Z<0)with c3|c3<;>rcases Classical.propComplete (X+Y<Z)with c4|c4
 all_goals
  simp only [c3,c4,or_self,or_true,true_or,false_or,or_false,if_true,if_false]at hU;simp -dsimp [sN,eF,uy,mS];repeat' first|omega|simp -dsimp [Om,sN,eF,uy,gz,ho,Ak,ho',HA,jU,hr,jP,hr',pe,hv,oR,fJ,pg,Xk,Ri,tf,Hy,Xl,Hz,Rj,wK,Hx,v2,v1,ez,v6,Rf,ri,wb,wx,c1,c2,c3,c4]|apply aI|apply nI|intro
  all_goals
   refine⟨b+1,ag rfl ?_,?_,by omega,by omega⟩
   ·simp [aj,aT]
   ·rw [Rh,hU];try rw [<-ow]
    exact(by(try simp -dsimp only [hpx]);refine ai ?_;simp -dsimp [aC,eF,uy,mS,gz,List.map_set,ri]<;>exact rz)
theorem ahW:FO 232 ack:=pf apK (.cons azE .nil)
noncomputable abbrev M4:=EV [(47,.pure Xm),(232,.pure ack)] [] 17600 16 [(1,[2,50002])]
theorem amL:af M4 [] Tryz.f176 ME:=pb <| by
 rintro⟨m,l⟩ hP;have hP:MQ m l:=hP;have s9:qQ m:=PT hP.ok;have za:l.length<=1000000:=by have:=hP.nb;simp only [o9,Bool.and_eq_true,decide_eq_true_eq]at this;omega
 have hE:pq m l=0:=uR.2 ⟨hP.ok,hP.nb⟩;simp -dsimp [Tryz.f176,M4];repeat' first|omega|simp -dsimp [M4,E6,hP,s9,hE,za,mL]|apply aI|apply nI|intro
theorem ahZ:FO 176 ME:=pf amL (.cons aeY (.cons ahW .nil))
noncomputable abbrev Ii:aB:=bS El Xa fun d=>.dB [.agg (D5 d.1 d.2.1.toNat d.2.2.toNat).row,.bool (zZ d.1 d.2.1.toNat d.2.2.toNat)]
noncomputable abbrev agh:=EV [(176,.pure ME)] [] 11800 111 [(1,[3,50003])]
theorem aqP:af agh [(1,([1,3,4,6,8,9],[[0,1,2,3,4,5,6,7,8,9,10,11,12]]))] Tryz.f118 Ii:=pb <| by
 rintro⟨f,j,m⟩ ⟨⟨hf,_,_⟩,hj,hm⟩;simp only at hf hj hm;obtain⟨j,rfl⟩:=Int.eq_ofNat_of_zero_le hj.1;obtain⟨m,rfl⟩:=Int.eq_ofNat_of_zero_le hm.1;have v0:j<f.jobs.length:=by omega
 have jW:m<f.dU.length:=by omega
 have v5:(j:Int)<f.jobs.length:=hj.2;have oh:(m:Int)<f.dU.length:=hm.2;have W4:=hf.agZ;obtain⟨x,hx,hx'⟩:=gx v0;have Rl:fP f j=x:=by simp [fP,List.getD,hx]
 obtain⟨b,hb,hb'⟩:=gx jW;have vb:sv f m=b:=by simp [sv,List.getD,hb]
 have v3:=hf.jb v0;have oG:=hf.bs jW;have h3:=hf.t3 v0 jW;have h0:=hf.t0 v0 jW;have hn:=yd hf.met;have TJ:=hf.tim.sq;have zo:=hf.turn;have zp:=hf.gF;have hQ:zZ f j m=(decide (0<=pX f j m) && decide (0<=oA f j) && decide (0<=pY f j m)):=rfl;have hV:jJ f j m=⟨(fP f j).dep - (if sv f m=(fP f j).a then 0 else f.turn+pX f j m),(fP f j).dep+oA f j,(fP f j).dep+oA f j+(if sv f m=(fP f j).b then 0 else f.turn+pY f j m),pX f j m+oA f j+pY f j m⟩:=rfl;have hX:pX f j m=g2 (zX f) (sv f m).toNat (fP f j).a.toNat:=rfl;have hY:oA f j=g2 (zX f) (fP f j).a.toNat (fP f j).b.toNat:=rfl;have hZ:pY f j m=g2 (zX f) (fP f j).b.toNat (sv f m).toNat:=rfl;have hO:D5 f j m=if zZ f j m=true then jJ f j m else ⟨0,0,0,0⟩:=rfl;have OU:rV f.met.n.toNat f.Ah=zX f:=rfl;rw [Rl]at v3 h0 hV hX hY hZ;rw [vb]at oG h0 hV hX hZ;obtain⟨xa,xc,xd,xv,xw⟩:=x;simp only at v3 h0 hV hX hY hZ;obtain⟨p,rfl⟩:=Int.eq_ofNat_of_zero_le oG.1;obtain⟨a,rfl⟩:=Int.eq_ofNat_of_zero_le v3.1.1;obtain⟨c,rfl⟩:=Int.eq_ofNat_of_zero_le v3.2.1.1;simp only [Int.toNat_natCast]at hX hY hZ;have hp:p<f.met.n.toNat:=by omega
 have ha:a<f.met.n.toNat:=by omega
 have hc:c<f.met.n.toNat:=by omega
 have HJ:=TJ.1;obtain⟨r1,kR,oy,oQ⟩:=jd TJ hp ha;obtain⟨r2,jP,vP,oR⟩:=jd TJ ha hc;obtain⟨r3,TK,zr,JC⟩:=jd TJ hc hp;rw [<-hX]at oQ;rw [<-hY]at oR;rw [<-hZ]at JC;have Dg:=(List.getElem?_eq_some_iff.1 kR).2;have pe:=(List.getElem?_eq_some_iff.1 jP).2;have Dh:=(List.getElem?_eq_some_iff.1 TK).2;have Di:=(List.getElem?_eq_some_iff.1 oQ).2;have pg:=(List.getElem?_eq_some_iff.1 oR).2;have Dj:=(List.getElem?_eq_some_iff.1 JC).2;clear hX hY hZ;generalize pX f j m=X at *;generalize oA f j=Y at *;generalize pY f j m=Z at *;generalize YX:zZ f j m=Q at *;generalize jJ f j m=B at *;generalize YY:D5 f j m=O at *;generalize zX f=T at *;have q1:p<T.length:=by omega
 have q2:a<T.length:=by omega
 have q3:c<T.length:=by omega
 have q4:a<r1.length:=by omega
 have q5:c<r2.length:=by omega
 have q6:p<r3.length:=by omega
 have YZ:(p:Int)<T.length:=by omega
 have Y3:(a:Int)<T.length:=by omega
 have Y4:(c:Int)<T.length:=by omega
 have Y5:(a:Int)<r1.length:=by omega
 have Y6:(c:Int)<r2.length:=by omega
 have Y7:(p:Int)<r3.length:=by omega
 by_cases c1:X<0
 ·have hQ:Q=false:=by rw [hQ,decide_eq_false (by omega:¬ 0<=X)];rfl
  rw [hQ]at hO;have hO:O=⟨0,0,0,0⟩:=hO;simp -dsimp [Tryz.f118,agh];repeat' first|omega|simp -dsimp [agh,hx,hx',hb,hb',v0,jW,v5,oh,E6,W4,OU,mL,Jb.row,Bk.row,aS,kR,Dg,jP,pe,TK,Dh,oQ,Di,oR,pg,JC,Dj,q1,q2,q3,q4,q5,q6,YZ,Y3,Y4,Y5,Y6,Y7,ri,c1,YX,YY,hQ,hO]|apply aI|apply nI|intro
 by_cases c2:Y<0
 ·have hQ:Q=false:=by rw [hQ,decide_eq_false (by omega:¬ 0<=Y)];simp
  rw [hQ]at hO;have hO:O=⟨0,0,0,0⟩:=hO;replace c1:(X<0)=False:=eq_false c1;simp -dsimp [Tryz.f118,agh];repeat' first|omega|simp -dsimp [agh,hx,hx',hb,hb',v0,jW,v5,oh,E6,W4,OU,mL,Jb.row,Bk.row,aS,kR,Dg,jP,pe,TK,Dh,oQ,Di,oR,pg,JC,Dj,q1,q2,q3,q4,q5,q6,YZ,Y3,Y4,Y5,Y6,Y7,ri,c1,c2,YX,YY,hQ,hO]|apply aI|apply nI|intro
 by_cases c3:Z<0
 ·have hQ:Q=false:=by rw [hQ,decide_eq_false (by omega:¬ 0<=Z)];simp
  rw [hQ]at hO;have hO:O=⟨0,0,0,0⟩:=hO;replace c1:(X<0)=False:=eq_false c1;replace c2:(Y<0)=False:=eq_false c2;simp -dsimp [Tryz.f118,agh];repeat' first|omega|simp -dsimp [agh,hx,hx',hb,hb',v0,jW,v5,oh,E6,W4,OU,mL,Jb.row,Bk.row,aS,kR,Dg,jP,pe,TK,Dh,oQ,Di,oR,pg,JC,Dj,q1,q2,q3,q4,q5,q6,YZ,Y3,Y4,Y5,Y6,Y7,ri,c1,c2,c3,YX,YY,hQ,hO]|apply aI|apply nI|intro
 have hQ:Q=true:=by rw [hQ,decide_eq_true (by omega:0<=X),decide_eq_true (by omega:0<=Y),decide_eq_true (by omega:0<=Z)];rfl
 have w1:=wi (xd - X);have w2:=wi (xd+Y);have w3:=wi (xd+Y+Z);have w4:=wi (X+Y);have w5:=wi (X+Y+Z);have w6:=wi (xd - X - f.turn);have w7:=wi (xd+Y+Z+f.turn);have hO:O=⟨if p=a then xd - X else xd - X - f.turn,xd+Y,if p=c then xd+Y+Z else xd+Y+Z+f.turn,X+Y+Z⟩:=by
  rw [hO,if_pos hQ,hV];simp only [Bk.mk.injEq,true_and,and_true];constructor
  ·by_cases e:p=a
   ·subst e;simp;omega
   ·rw [if_neg (by omega),if_neg e];omega
  ·by_cases e:p=c
   ·subst e;simp;omega
   ·rw [if_neg (by omega),if_neg e];omega
 replace c1:(X<0)=False:=eq_false c1;replace c2:(Y<0)=False:=eq_false c2;replace c3:(Z<0)=False:=eq_false c3;have vs:∀x y:Nat,(((x:Int) != y)=true/\(x=y)=False)\/(((x:Int) != y)=false/\(x=y)=True):=fun x y=>by
  by_cases e:x=y
  ·exact .inr ⟨by simp [e],eq_true e⟩
  ·exact .inl ⟨by simp;omega,eq_false e⟩
 rcases vs p a with⟨c4,d4⟩|⟨c4,d4⟩<;>rcases vs p c with⟨c5,d5⟩|⟨c5,d5⟩
 all_goals
  simp only [d4,d5,if_true,if_false]at hO;simp -dsimp [Tryz.f118,agh];repeat' first|omega|simp -dsimp [agh,hx,hx',hb,hb',v0,jW,v5,oh,E6,W4,OU,mL,Jb.row,Bk.row,aS,kR,Dg,jP,pe,TK,Dh,oQ,Di,oR,pg,JC,Dj,q1,q2,q3,q4,q5,q6,YZ,Y3,Y4,Y5,Y6,Y7,ri,c1,c2,c3,c4,c5,d4,d5,w1,w2,w3,w4,w5,w6,w7,YX,YY,hQ,hO]|apply aI|apply nI|intro
theorem alz:FO 118 Ii:=pf aqP (.cons ahZ .nil)
noncomputable abbrev aaa:aB:=bS TE MaP fun d=>.int .i64 (qP d.1 d.2.toNat)
noncomputable abbrev Sn:=EV [(177,.pure rS)] [] 11900 19 [(1,[2,50002])]
theorem ans:af Sn [] Tryz.f119 aaa:=pb <| by
 rintro⟨f,m⟩ ⟨⟨hf,_,_⟩,hm⟩;simp only at hf hm;obtain⟨m,rfl⟩:=Int.eq_ofNat_of_zero_le hm.1;have zd:RLM.oW ⟨f.eH,f.ko,m,0⟩:=PW hf.op;have hH:qP f m=if dR f.eH f.ko m 0=0 then de f.eH f.ko m 0 else -1:=rfl;rcases Classical.propComplete (dR f.eH f.ko m 0=0)with c|c
 all_goals
  simp only [c,if_true,if_false]at hH;simp -dsimp [Tryz.f119,Sn];repeat' first|omega|simp -dsimp [Sn,ta,zd,c,hH]|apply aI|apply nI|intro
theorem aiR:FO 119 aaa:=pf ans (.cons abi .nil)
noncomputable abbrev U7:aB:=bS El Xa fun d=>.bool (jR d.1 d.2.1.toNat d.2.2.toNat)
noncomputable abbrev Au:=EV [(118,.pure Ii),(119,.pure aaa)] [] 11600 35 [(1,[3,50003])]
theorem am2:af Au [] Tryz.f116 U7:=pb <| by
 rintro⟨f,j,m⟩ hJ;have hJ:Xa (f,j,m):=hJ;have hM:MaP (f,m):=⟨hJ.ok,hJ.m⟩
 have hC:jR f j.toNat m.toNat=(zZ f j.toNat m.toNat && decide (0<=(jJ f j.toNat m.toNat).lv) && decide ((jJ f j.toNat m.toNat).hm<f.gF) && decide (0<=qP f m.toNat)):=rfl;have hO:zZ f j.toNat m.toNat=true->D5 f j.toNat m.toNat=jJ f j.toNat m.toNat:=uJ;cases hQ:zZ f j.toNat m.toNat
 ·rw [hQ]at hC;have hC:jR f j.toNat m.toNat=false:=hC;simp -dsimp [Tryz.f116,Au,Bk.row];repeat' first|omega|simp -dsimp [Au,Bk.row,dS,hJ,hQ,hC]|apply aI|apply nI|intro
 have hO:=hO hQ;rw [hQ]at hC;generalize jJ f j.toNat m.toNat=B at *;obtain⟨b1,b2,b3,b4⟩:=B;simp only at hC;rcases Classical.propComplete (0<=b1)with c1|c1<;>rcases Classical.propComplete (b3<f.gF)with c2|c2<;>rcases Classical.propComplete (0<=qP f m.toNat)with c3|c3
 all_goals
  simp only [c1,c2,c3,decide_true,decide_false,Bool.and_true,Bool.and_false,Bool.true_and,Bool.false_and]at hC;simp -dsimp [Tryz.f116,Au,Bk.row];repeat' first|omega|simp -dsimp [Au,Bk.row,dS,zi,hJ,hM,hQ,hO,hC,c1,c2,c3]|apply aI|apply nI|intro
theorem aiC:FO 116 U7:=pf am2 (.cons alz (.cons aiR .nil))
noncomputable abbrev U8:aB:=bS El JoP fun d=>.bool (DY d.1 d.2.1.toNat d.2.2.toNat)
noncomputable abbrev agf:=EV [(118,.pure Ii),(175,.pure OpS)] [] 11700 92 [(1,[3,50003])]
theorem aqO:af agf [(2,([1,3,4,6,8,9],[[0,1,2,3,4,5,6,7,8,9,10,11,12]]))] Tryz.f117 U8:=pb <| by
 rintro⟨f,j,m⟩ ⟨hJ,v8⟩;simp only at v8;have hK:=hJ.ok;have hf:=hK.ok;have hj:=hJ.j;have hm:=hJ.m;simp only at hK hf hj hm;obtain⟨j,rfl⟩:=Int.eq_ofNat_of_zero_le hj.1;obtain⟨m,rfl⟩:=Int.eq_ofNat_of_zero_le hm.1;simp only [Int.toNat_natCast]at v8;have v0:j<f.jobs.length:=by omega
 have jW:m<f.dU.length:=by omega
 have v5:(j:Int)<f.jobs.length:=hj.2;have oh:(m:Int)<f.dU.length:=hm.2;obtain⟨x,hx,hx'⟩:=gx v0;have Rl:fP f j=x:=by simp [fP,List.getD,hx]
 obtain⟨b,hb,hb'⟩:=gx jW;have vb:sv f m=b:=by simp [sv,List.getD,hb]
 have v3:=hf.jb v0;have oG:=hf.bs jW;obtain⟨hq,t1,t2,t3,t4⟩:=hf.ticks v0 jW v8;have hA:DY f j m=(wT f (sv f m) (jJ f j m).lv && wT f (fP f j).a (fP f j).dep && wT f (fP f j).b (jJ f j m).ar && wT f (sv f m) (jJ f j m).hm):=rfl;have hO:=uJ hq;rw [Rl]at v3 t2 hA;rw [vb]at oG hA;obtain⟨xa,xc,xd,xv,xw⟩:=x;generalize jJ f j m=B at *;obtain⟨b1,b2,b3,b4⟩:=B;simp only at v3 t1 t2 t3 t4 hA;have o1:=hK.op oG t1;have o2:=hK.op v3.1 t2;have o3:=hK.op v3.2.1 t3;have o4:=hK.op oG t4;have hF:∀p t,EI f.met f.mn p t=wT f p t:=fun _ _=>rfl;cases c1:wT f b b1<;>cases c2:wT f xa xd<;>cases c3:wT f xc b2<;>cases c4:wT f b b3
 all_goals
  simp only [c1,c2,c3,c4,Bool.and_true,Bool.and_false,Bool.true_and,Bool.false_and,Bool.and_self]at hA;simp -dsimp [Tryz.f117,agf,Bk.row];repeat' first|omega|simp -dsimp [agf,hx,hx',hb,hb',v0,jW,v5,oh,Jb.row,Bk.row,dS,ye,hJ,hq,hO,o1,o2,o3,o4,hF,c1,c2,c3,c4,aS,hA]|apply aI|apply nI|intro
theorem aly:FO 117 U8:=pf aqO (.cons alz (.cons KO .nil))
end Go.Sx
end
end
